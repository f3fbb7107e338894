/-
  What is proved here: facts about lists and numbers with checks.
  Conditions: none.
-/
import Derived.Test.YtpfdeoapnpcbaaaVDec
set_option linter.unusedSimpArgs false
set_option linter.unusedSectionVars false
namespace Go.Vs
set_option linter.unusedVariables false

theorem w64_id {x : Int} (h1 : -9223372036854775808 ≤ x) (h2 : x < 9223372036854775808) : w64 x = x := wrap_i64 ⟨h1, h2⟩
section
variable {α β : Type}
theorem getI_n {xs : List α} {i : Nat} : getI xs (i : Int) = xs[i]? := by unfold getI; rw [if_pos (by omega)]; simp
theorem getI_t {xs : List α} {i : Int} (h : 0 ≤ i) : getI xs i = xs[i.toNat]? := by unfold getI; rw [if_pos h]
theorem setI_n {xs : List α} {i : Nat} {x : α} (h : i < xs.length) : setI xs (i : Int) x = some (xs.set i x) := by unfold setI; rw [if_pos ⟨by omega, by simpa using h⟩]; simp
theorem appI_eq {xs ys : List α} (h : xs.length + ys.length ≤ LIM) : appI xs ys = some (xs ++ ys) := by unfold appI; rw [if_pos h]
theorem makI_n {n : Nat} {z : α} (h : n ≤ LIM) : makI (n : Int) z = some (List.replicate n z) := by unfold makI; rw [if_pos ⟨by omega, by simpa using h⟩]; simp
theorem subI_take {xs : List α} {i : Nat} (h : i ≤ xs.length) : subI xs 0 (i : Int) = some (xs.take i) := by unfold subI; rw [if_pos ⟨by omega, by omega, by simpa using h⟩]; simp
theorem subI_all {xs : List α} : subI xs 0 (xs.length : Int) = some xs := by rw [subI_take (Nat.le_refl _), List.take_length]
theorem subI_drop {xs : List α} {i : Nat} (h : i ≤ xs.length) : subI xs (i : Int) (xs.length : Int) = some (xs.drop i) := by unfold subI; rw [if_pos ⟨by omega, by omega, by simp⟩]; simp
theorem chk_eq {n : Int} (h : n ≤ 9223372036854775807) : chk n = some () := by unfold chk; rw [if_pos h]
theorem rng_length {i n : Int} : (rng i n).length = (n - i).toNat := by unfold rng; simp
theorem mem_rng {i n k : Int} : k ∈ rng i n ↔ i ≤ k ∧ k < n := by
  unfold rng
  simp only [List.mem_map, List.mem_range]
  constructor
  · rintro ⟨m, h1, rfl⟩; omega
  · rintro ⟨h1, h2⟩; exact ⟨(k - i).toNat, by omega, by omega⟩
theorem rng_get {i n : Int} {m : Nat} (h : m < (n - i).toNat) : (rng i n)[m]? = some (i + m) := by
  unfold rng; rw [List.getElem?_map, List.getElem?_range h]; rfl
/-- the loop that copies -/
theorem copy_step {s zs : List α} {i : Nat} {x : α} (h : i + (zs.length + 1) = s.length) : (s.set i x).take (i + 1) ++ zs = s.take i ++ x :: zs := by
  have hi : i < s.length := by omega
  rw [List.take_succ_eq_append_getElem (by simpa using hi)]
  simp [List.take_set_of_le]
end
end Go.Vs
