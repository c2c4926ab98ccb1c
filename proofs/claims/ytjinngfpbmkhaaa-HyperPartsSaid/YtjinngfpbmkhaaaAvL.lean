import Derived.Test.YtjinngfpbmkhaaaAvK
namespace Go.Av
set_option linter.unusedVariables false
set_option linter.unusedSimpArgs false
open Go.RowKit

section
variable {P : Program} {w0 w : World} {M : Mem} {φ : Phi} {g : GH}

def notInt : TypeDesc → Bool
  | .slice _ => true
  | .string => true
  | _ => false

theorem wrap_i64_in {x : Int} (h0 : -9223372036854775808 ≤ x) (h1 : x ≤ 9223372036854775807) : IntKind.i64.wrap x = x := by
  simp [IntKind.wrap, IntKind.bits, IntKind.signed]; omega

theorem run_app_room {t u e : TypeId} {d : TypeDesc} {ti : TyI} (ty : TypeId) (hu : P.underlying t = some (.slice e)) (hd : P.underlying u = some d) (hdn : notInt d = true) (hti : tyI P e = some ti) (base : Option Addr) (sLen sCap : Nat) (x : Value) (n : Nat) (news : Array Value)
    (hx : Builtin.lenOf x = pure n) (hn : (Builtin.firstCells ti.size n x).run P w = .ok news w) (hroom : sLen + n ≤ sCap) :
    (Builtin.append_ #[t, u] ty #[.slice base sLen sCap, x]).run P w = match base with
      | none => .ok (.slice none (sLen + n) sCap) w
      | some a => ((storeCells (a.add (sLen * ti.size)) news.toList).run P w).andThen fun _ w' => .ok (.slice (some a) (sLen + n) sCap) w' := by
  have hsz := run_sizeOf_ty hti w
  cases d <;> simp only [notInt, Bool.false_eq_true] at hdn <;> cases base <;> simp [Builtin.append_, run_underlying hu, run_underlying hd, hsz, hx, hn, hroom]

theorem run_app_grow {t u e : TypeId} {d : TypeDesc} {ti : TyI} (ty : TypeId) (hu : P.underlying t = some (.slice e)) (hd : P.underlying u = some d) (hdn : notInt d = true) (hti : tyI P e = some ti) (base : Option Addr) (sLen sCap : Nat) (x : Value) (n : Nat) (olds news : Array Value)
    (hx : Builtin.lenOf x = pure n) (ho : (Builtin.firstCells ti.size sLen (.slice base sLen sCap)).run P w.drew = .ok olds w.drew) (hn : (Builtin.firstCells ti.size n x).run P w.drew = .ok news w.drew) (hroom : ¬ sLen + n ≤ sCap)
    (hb : (sLen + n) * (2 * ti.bytes) ≤ 281474976710656) (hb0 : ti.bytes ≠ 0) (z : Value) (hz : ∃ i, P.info? e = some i ∧ i.zero = some z) :
    (Builtin.append_ #[t, u] ty #[.slice base sLen sCap, x]).run P w =
      .ok (.slice (some ⟨w.heap.size, 0, none⟩) (sLen + n) (grownCap w (sLen + n) sCap e)) (w.drew.alloc (.cells (olds ++ news ++ Builtin.zeroCells z.cells (grownCap w (sLen + n) sCap e - (sLen + n))) e)) := by
  obtain ⟨i, hi, hiz⟩ := hz
  obtain ⟨i', d', hi', hd', hs, hby, _⟩ := tyI_inv hti
  rw [hi] at hi'; cases hi'
  have h1 : Builtin.nextslicecap (sLen + n) sCap * i.bytes ≤ 281474976710656 := by
    have := Nat.mul_le_mul_right i.bytes (nextslicecap_le (need := sLen + n) (old := sCap) (by omega))
    rw [hby] at hb
    rw [Nat.mul_comm 2 (sLen + n), Nat.mul_assoc] at this
    omega
  have h2 : ¬ 281474976710656 < Builtin.nextslicecap (sLen + n) sCap * i.bytes := by omega
  have hbytes : ¬ i.bytes = 0 := by omega
  have h3 : sLen + n ≤ (sLen + n) * (2 * ti.bytes) := Nat.le_mul_of_pos_right _ (by omega)
  have h63 : ¬ (9223372036854775807 < ((sLen : Int) + (n : Int))) := by omega
  have hgc : grownCap w (sLen + n) sCap e = (Question.appendCap (sLen + n) sCap e).cut (w.tape w.drawn (.appendCap (sLen + n) sCap e)) := rfl
  rw [hs] at ho hn
  cases d <;> simp only [notInt, Bool.false_eq_true] at hdn <;>
    simp [Builtin.append_, run_underlying hu, run_underlying hd, sizeOf, typeInfo, zeroValue, hi, hiz, hx, hroom, h63, h2, hbytes, Question.forced, ho, hn, newRow, hgc]

theorem run_app_room0 {t u e : TypeId} {k' : IntKind} {ti : TyI} (ty : TypeId) (hu : P.underlying t = some (.slice e)) (hd : P.underlying u = some (.int k')) (hti : tyI P e = some ti) (base : Option Addr) (sLen sCap : Nat) (k : Int) (z : Value) (hz : ∃ i, P.info? e = some i ∧ i.zero = some z)
    (h0 : 0 ≤ k) (h1 : k ≤ 9223372036854775807) (h2 : k * ti.bytes ≤ 281474976710656) (hroom : sLen + k.toNat ≤ sCap) :
    (Builtin.append_ #[t, u] ty #[.slice base sLen sCap, .int .i64 k]).run P w = match base with
      | none => .ok (.slice none (sLen + k.toNat) sCap) w
      | some a => ((storeCells (a.add (sLen * ti.size)) (if k.toNat * ti.size = 0 then #[] else Builtin.zeroCells z.cells k.toNat).toList).run P w).andThen fun _ w' => .ok (.slice (some a) (sLen + k.toNat) sCap) w' := by
  obtain ⟨i, hi, hiz⟩ := hz
  obtain ⟨i', d', hi', hd', hs, hby, _⟩ := tyI_inv hti
  rw [hi] at hi'; cases hi'
  have hw : IntKind.i64.wrap k = k := wrap_i64_in (by omega) h1
  have hw0 : ¬ k < 0 := by omega
  have hw1 : ¬ 281474976710656 < k * (i.bytes : Int) := by rw [← hby]; omega
  have hzv : (zeroValue e).run P w = .ok z w := by simp [zeroValue, typeInfo, hi, hiz]
  have hsz := run_sizeOf_ty hti w
  have hty : (typeInfo e).run P w = .ok i w := by simp [typeInfo, hi]
  by_cases hn : k.toNat * ti.size = 0
  · cases base <;> simp [Builtin.append_, run_underlying hu, run_underlying hd, hsz, hty, asInt, asIntOf, hw, hw0, hw1, hroom, hn]
  · cases base <;> simp [Builtin.append_, run_underlying hu, run_underlying hd, hsz, hty, hzv, asInt, asIntOf, hw, hw0, hw1, hroom, hn]

theorem run_app_grow0 {t u e : TypeId} {k' : IntKind} {ti : TyI} (ty : TypeId) (hu : P.underlying t = some (.slice e)) (hd : P.underlying u = some (.int k')) (hti : tyI P e = some ti) (base : Option Addr) (sLen sCap : Nat) (k : Int) (z : Value) (hz : ∃ i, P.info? e = some i ∧ i.zero = some z)
    (h0 : 0 ≤ k) (h1 : k ≤ 9223372036854775807) (h2 : k * ti.bytes ≤ 281474976710656) (olds : Array Value) (ho : (Builtin.firstCells ti.size sLen (.slice base sLen sCap)).run P w.drew = .ok olds w.drew) (hroom : ¬ sLen + k.toNat ≤ sCap)
    (hb : (sLen + k.toNat) * (2 * ti.bytes) ≤ 281474976710656) (hb0 : ti.bytes ≠ 0) :
    (Builtin.append_ #[t, u] ty #[.slice base sLen sCap, .int .i64 k]).run P w =
      .ok (.slice (some ⟨w.heap.size, 0, none⟩) (sLen + k.toNat) (grownCap w (sLen + k.toNat) sCap e))
        (w.drew.alloc (.cells (olds ++ (if k.toNat * ti.size = 0 then #[] else Builtin.zeroCells z.cells k.toNat) ++ Builtin.zeroCells z.cells (grownCap w (sLen + k.toNat) sCap e - (sLen + k.toNat))) e)) := by
  obtain ⟨i, hi, hiz⟩ := hz
  obtain ⟨i', d', hi', hd', hs, hby, _⟩ := tyI_inv hti
  rw [hi] at hi'; cases hi'
  have hw : IntKind.i64.wrap k = k := wrap_i64_in (by omega) h1
  have hw0 : ¬ k < 0 := by omega
  have hw1 : ¬ 281474976710656 < k * (i.bytes : Int) := by rw [← hby]; omega
  have h3 : Builtin.nextslicecap (sLen + k.toNat) sCap * i.bytes ≤ 281474976710656 := by
    have := Nat.mul_le_mul_right i.bytes (nextslicecap_le (need := sLen + k.toNat) (old := sCap) (by omega))
    rw [hby] at hb
    rw [Nat.mul_comm 2 (sLen + k.toNat), Nat.mul_assoc] at this
    omega
  have h4 : ¬ 281474976710656 < Builtin.nextslicecap (sLen + k.toNat) sCap * i.bytes := by omega
  have hbytes : ¬ i.bytes = 0 := by omega
  have h5 : sLen + k.toNat ≤ (sLen + k.toNat) * (2 * ti.bytes) := Nat.le_mul_of_pos_right _ (by omega)
  have h63 : ¬ (9223372036854775807 < ((sLen : Int) + (k.toNat : Int))) := by omega
  have h63' : ¬ (9223372036854775807 < ((sLen : Int) + max k 0)) := by omega
  have hgc : grownCap w (sLen + k.toNat) sCap e = (Question.appendCap (sLen + k.toNat) sCap e).cut (w.tape w.drawn (.appendCap (sLen + k.toNat) sCap e)) := rfl
  have hzv : ∀ w, (zeroValue e).run P w = .ok z w := fun w => by simp [zeroValue, typeInfo, hi, hiz]
  have hsz := fun w => run_sizeOf_ty hti w
  have hty : ∀ w, (typeInfo e).run P w = .ok i w := fun w => by simp [typeInfo, hi]
  by_cases hn : k.toNat * ti.size = 0
  · simp [Builtin.append_, run_underlying hu, run_underlying hd, hsz, hty, hzv, asInt, asIntOf, hw, hw0, hw1, hroom, h63, h63', h4, hbytes, Question.forced, ho, hn, newRow, hgc]
  · simp [Builtin.append_, run_underlying hu, run_underlying hd, hsz, hty, hzv, asInt, asIntOf, hw, hw0, hw1, hroom, h63, h63', h4, hbytes, Question.forced, ho, hn, newRow, hgc]

end
end Go.Av
