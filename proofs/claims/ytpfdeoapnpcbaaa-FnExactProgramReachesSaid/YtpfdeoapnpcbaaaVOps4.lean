/-
  What is proved here: rows built, made and appended to, for plain values.
  Conditions: none.
-/
import Derived.Test.YtpfdeoapnpcbaaaVOps3
set_option linter.unusedSectionVars false
namespace Go.Vs
set_option linter.unusedVariables false
set_option linter.unusedSimpArgs false

section
variable {P : Program} {w : World} {h : H} {ι : Tok → TI} {used : Tok → Nat → Prop} {tk : Tok}

theorem zero_isAgg {K : Ctx} {z : PV} {zv : Value} (hz : z = PV.ofV zv) : VRs K z.cells zv.cells.toList := by
  subst hz
  rw [cells_ofV]
  exact VRs.ofV1s K _

/-- many zero values, cell by cell -/
theorem zeros_rel {K : Ctx} {z : PV} {zc : Array Value} (hz : VRs K z.cells zc.toList) (n : Nat) : VRs K (flat (List.replicate n z)) (List.replicate n zc.toList).flatten := by
  induction n with
  | zero => simp [flat, VRs.nil_iff]
  | succ n ih =>
    rw [List.replicate_succ, List.replicate_succ, flat_cons, List.flatten_cons]
    exact hz.append ih

theorem cyc_list {α : Type} [Inhabited α] (z : List α) (hz : 0 < z.length) : ∀ n, (List.range (n * z.length)).map (fun i => z[i % z.length]!) = (List.replicate n z).flatten
  | 0 => by simp
  | n + 1 => by
    rw [Nat.succ_mul, List.range_add, List.map_append, cyc_list z hz n, List.replicate_succ']
    simp only [List.flatten_append, List.flatten_cons, List.flatten_nil, List.append_nil, List.map_map]
    congr 1
    apply List.ext_getElem
    · simp
    · intro i h1 h2
      simp only [List.length_map, List.length_range] at h1
      simp only [List.getElem_map, List.getElem_range, Function.comp]
      rw [Nat.add_comm, Nat.add_mul_mod_self_right, Nat.mod_eq_of_lt h1]
      simp [h1]

theorem cyc_array (zc : Array Value) (hz : 0 < zc.size) (n : Nat) : ((Array.range (n * zc.size)).map (fun i => zc[i % zc.size]!)).toList = (List.replicate n zc.toList).flatten := by
  rw [← cyc_list zc.toList (by simpa using hz) n]
  simp only [Array.toList_map, Array.toList_range, Array.length_toList]
  apply List.map_congr_left
  intro i _
  simp [Array.getElem!_eq_getD, List.getElem!_eq_getElem?_getD, Array.getD_eq_getD_getElem?]

theorem Ok.replicate {s n : Nat} {z : PV} (h : z.cells.length = s ∧ ∀ c ∈ z.cells, c.one = true) : Ok s (List.replicate n z) := by
  intro x hx
  obtain ⟨_, rfl⟩ := List.mem_replicate.1 hx
  exact h

theorem ofV_ones {zv : Value} (h : ∀ c ∈ zv.cells.toList, c.oneCell' = true) : ∀ c ∈ (PV.ofV zv).cells, c.one = true := by
  intro c hc
  rw [cells_ofV] at hc
  obtain ⟨v, hv, rfl⟩ := List.mem_map.1 hc
  exact one_ofV1 (h v hv)

/-- elements put into a row by their index -/
theorem elems_rel {K : Ctx} {s : Nat} : ∀ {parts : List (Nat × PV)} {parts' : List (Nat × Value)} {xs : List PV} {arr : Array Value} {ys : List PV},
    parts'.map Prod.fst = parts.map Prod.fst → VRs K (parts.map Prod.snd) (parts'.map Prod.snd) → Ok s xs → VRs K (flat xs) arr.toList →
    elemsOver s xs parts = some ys → ∃ arr', Instr.fill (fun i => some (i * s, s)) arr parts' = some arr' ∧ Ok s ys ∧ VRs K (flat ys) arr'.toList ∧ ys.length = xs.length ∧ arr'.size = arr.size
  | [], parts', xs, arr, ys, h1, h2, h3, h4, he => by
    have : parts' = [] := by simpa using h1
    subst this
    simp only [elemsOver] at he; cases he
    exact ⟨arr, rfl, h3, h4, rfl, rfl⟩
  | (i, x) :: parts, [], xs, arr, ys, h1, _, _, _, _ => by simp at h1
  | (i, x) :: parts, (i', y) :: parts', xs, arr, ys, h1, h2, h3, h4, he => by
    simp only [List.map_cons, List.cons.injEq] at h1
    obtain ⟨hi, h1⟩ := h1
    have hi : i' = i := hi
    subst hi
    simp only [List.map_cons, VRs.cons_iff] at h2
    simp only [elemsOver] at he
    split at he
    · rename_i hc
      obtain ⟨c1, c2, c3, c4⟩ := hc
      have c3' : ∀ c ∈ x.cells, c.one = true := by simpa using c3
      obtain ⟨hv, _⟩ := VR.cells h2.1 c3'
      have hyl : y.cells.size = s := by have := hv.length; simp at this; rw [this, c1]
      have hal : arr.size = xs.length * s := by have := h4.length; rw [flat_length h3] at this; simpa using this
      have hle : i' * s + s ≤ xs.length * s := by rw [← Nat.succ_mul]; exact Nat.mul_le_mul_right _ c2
      have hset := setFoldA y.cells arr (i' * s) (by rw [hyl, hal]; exact hle)
      have hrel : VRs K (flat (xs.set i' x)) (y.cells.zipIdx.foldl (fun cs (x : Value × Nat) => cs.setIfInBounds (i' * s + x.2) x.1) arr).toList := by
        rw [hset, flat_set h3 x c2, hyl]
        exact ((h4.take _).append hv).append (h4.drop _)
      have hok : Ok s (xs.set i' x) := by
        intro z hz
        rcases List.mem_or_eq_of_mem_set hz with hz | rfl
        · exact h3 z hz
        · exact ⟨c1, c3'⟩
      obtain ⟨arr', f1, f2, f3, f4, f5⟩ := elems_rel (parts := parts) (parts' := parts') h1 h2.2 hok hrel he
      have hsz : (y.cells.zipIdx.foldl (fun cs (x : Value × Nat) => cs.setIfInBounds (i' * s + x.2) x.1) arr).size = arr.size := by
        have := congrArg List.length hset
        simp only [Array.length_toList, List.length_append, List.length_take, List.length_drop] at this
        rw [this, hyl, hal]; omega
      refine ⟨arr', ?_, f2, f3, by rw [f4]; simp, by rw [f5, hsz]⟩
      simp only [Instr.fill]
      rw [if_neg (by simp [hyl]; rw [hal]; exact hle)]
      exact f1
    · cases he

theorem run_buildSlice {t e s len : Nat} {z : PV} (ht : P.underlying t = some (.slice e)) (hs : szOf P e = some s) (hz : zeroOf P e = some z) (hzl : z.cells.length = s) (h0 : 0 < s) (hb : len * s ≤ 4096)
    {K : Ctx} {parts : List (Nat × PV)} {parts' : Array (Nat × Value)} {xs : List PV} (h1 : parts'.toList.map Prod.fst = parts.map Prod.fst) (h2 : VRs K (parts.map Prod.snd) (parts'.toList.map Prod.snd))
    (he : elemsOver s (List.replicate len z) parts = some xs) (w : World) :
    ∃ arr, (Instr.buildSlice t len parts').run P w = .ok (.slice (some ⟨w.heap.size, 0, none⟩) len len) (w.alloc (.cells arr e)) ∧ Ok s xs ∧ VRs K (flat xs) arr.toList ∧ xs.length = len ∧ arr.size = len * s := by
  obtain ⟨i, zv, hi, hzv, hzs, hz1, hze, hsz⟩ := zeroOf_iff hz
  rw [hs] at hsz; cases hsz
  have hzc := zero_isAgg (K := K) hze
  have hzcl : zv.cells.size = i.size := hzs
  have hrel : VRs K (flat (List.replicate len z)) ((Array.range (len * i.size)).map (fun j => zv.cells[j % zv.cells.size]!)).toList := by
    rw [← hzcl, cyc_array zv.cells (by rw [hzcl]; exact h0) len]
    exact zeros_rel hzc len
  obtain ⟨arr, f1, f2, f3, f4, f5⟩ := elems_rel h1 h2 (Ok.replicate ⟨hzl, by rw [hze]; exact ofV_ones hz1⟩) hrel he
  refine ⟨arr, ?_, f2, f3, by rw [f4]; simp, by rw [f5]; simp⟩
  have hbig : ¬ (len * i.size > 2 ^ 24) := by omega
  by_cases hl : len * i.size = 0
  · have harr0 : (Array.range (len * i.size)).map (fun j => zv.cells[j % zv.cells.size]!) = #[] := by rw [hl]; simp
    rw [harr0] at f1
    simp only [Instr.buildSlice, Sem.run_bind, run_underlying ht, Result.andThen_ok, run_sizeOf' hs, if_neg hbig, Sem.run_pure, if_pos hl]
    have : (Array.map (fun (j : Nat) => (#[] : Array Value)[j % (#[] : Array Value).size]!) (Array.range (len * i.size))) = #[] := by rw [hl]; simp
    rw [this]
    simp only [f1, newRow, Sem.run_bind, run_newObj, Result.andThen_ok, Sem.run_pure]
    rfl
  · simp only [Instr.buildSlice, Sem.run_bind, run_underlying ht, Result.andThen_ok, run_sizeOf' hs, if_neg hbig, Sem.run_pure, if_neg hl, zeroValue, typeInfo, run_program, hi, hzv, f1, newRow, run_newObj]
    rfl

theorem run_makeSlice {t e s : Nat} {z : PV} (ht : P.underlying t = some (.slice e)) (hs : szOf P e = some s) (hz : zeroOf P e = some z) (hzl : z.cells.length = s) (h0 : 0 < s) {i j : Int} (hi0 : 0 ≤ i) (hij : i ≤ j) (hj : j.toNat ≤ LIM) (hb : bytesOf P e ≤ 64)
    (K : Ctx) (w : World) : ∃ arr, (Instr.makeSlice t (.int .i64 i) (.int .i64 j)).run P w = .ok (.slice (some ⟨w.heap.size, 0, none⟩) i.toNat j.toNat) (w.alloc (.cells arr e)) ∧ arr.size = j.toNat * s ∧ SLR K s arr 0 (List.replicate i.toNat z) := by
  obtain ⟨inf, zv, hi, hzv, hzs, hz1, hze, hsz⟩ := zeroOf_iff hz
  rw [hs] at hsz; cases hsz
  have hzc := zero_isAgg (K := K) hze
  have hcyc : ((Array.range (j.toNat * inf.size)).map (fun k => zv.cells[k % zv.cells.size]!)).toList = (List.replicate j.toNat zv.cells.toList).flatten := by
    have := cyc_array zv.cells (by rw [hzs]; exact h0) j.toNat
    rwa [show j.toNat * zv.cells.size = j.toNat * inf.size by rw [hzs]] at this
  refine ⟨(Array.range (j.toNat * inf.size)).map (fun k => zv.cells[k % zv.cells.size]!), ?_, by simp, ?_⟩
  · have hby : bytesOf P e = inf.bytes := by simp [bytesOf, hi]
    rw [hby] at hb
    unfold LIM at hj
    have hwi : IntKind.i64.wrap i = i := by simp [IntKind.wrap, IntKind.signed, IntKind.bits]; omega
    have hwj : IntKind.i64.wrap j = j := by simp [IntKind.wrap, IntKind.signed, IntKind.bits]; omega
    have hm : (inf.bytes : Int) * j ≤ 64 * 2 ^ 40 := by
      have h1 : (inf.bytes : Int) ≤ 64 := by exact_mod_cast hb
      have h2 : j ≤ 2 ^ 40 := by omega
      calc (inf.bytes : Int) * j ≤ 64 * j := Int.mul_le_mul_of_nonneg_right h1 (by omega)
        _ ≤ 64 * 2 ^ 40 := Int.mul_le_mul_of_nonneg_left h2 (by omega)
    have hif : ¬ (((decide (j < 0) || decide ((inf.bytes : Int) * j > 2 ^ 48)) || decide (i < 0) || decide (i > j)) = true) := by
      simp only [Bool.or_eq_true, decide_eq_true_eq, not_or]
      refine ⟨⟨⟨by omega, ?_⟩, by omega⟩, by omega⟩
      intro hgt
      have : (64 * 2 ^ 40 : Int) < 2 ^ 48 := by decide
      omega
    simp only [Instr.makeSlice, Sem.run_bind, run_underlying ht, Result.andThen_ok, asInt, asIntOf, Sem.run_pure, typeInfo, run_program, hi, hwi, hwj, Sem.run_ite]
    rw [if_neg hif]
    simp only [Sem.run_bind, Sem.run_pure, Result.andThen_ok, run_askRoom, run_sizeOf' hs]
    by_cases hl : j.toNat * inf.size = 0
    · have : (Array.map (fun (k : Nat) => (#[] : Array Value)[k % (#[] : Array Value).size]!) (Array.range (j.toNat * inf.size))) = (Array.range (j.toNat * inf.size)).map (fun k => zv.cells[k % zv.cells.size]!) := by rw [hl]; simp
      simp only [if_pos hl, Sem.run_pure, Result.andThen_ok, newRow, Sem.run_bind, run_newObj, this]
      rfl
    · simp only [if_neg hl, Sem.run_bind, zeroValue, typeInfo, run_program, Result.andThen_ok, hi, hzv, Sem.run_pure, newRow, run_newObj]
      rfl
  · have hle : i.toNat * inf.size ≤ j.toNat * inf.size := Nat.mul_le_mul_right _ (by omega)
    rw [SLR_iff (by simp; exact hle)]
    refine ⟨Ok.replicate ⟨hzl, by rw [hze]; exact ofV_ones hz1⟩, ?_⟩
    simp only [List.drop_zero, hcyc, List.length_replicate]
    have := zeros_rel hzc i.toNat
    have hsplit : (List.replicate j.toNat zv.cells.toList).flatten.take (i.toNat * inf.size) = (List.replicate i.toNat zv.cells.toList).flatten := by
      have hr : List.replicate j.toNat zv.cells.toList = List.replicate i.toNat zv.cells.toList ++ List.replicate (j.toNat - i.toNat) zv.cells.toList := by
        rw [List.replicate_append_replicate]; congr 1; omega
      rw [hr, List.flatten_append, List.take_append_of_le_length (by simp [hzs]), List.take_of_length_le (by simp [hzs])]
    rw [hsplit]
    exact this
end
end Go.Vs
