/- What is told of slices.Sort, at integers of 64 bits: the object holds its numbers in order. -/
import Derived.Test.YtoliadfdklfmfaaAw33
import Derived.Sort.Grow
set_option linter.unusedVariables false
set_option linter.unusedSimpArgs false
namespace Go.Proofs.Ytoliadfdklfmfaa
namespace Aw
open Go.Sort

def sortI (zs : List Int) : List Int := zs.mergeSort fun x y => decide (x ≤ y)
/-- The numbers of a list of integers. -/
def intsOf : List PV → Option (List Int)
  | [] => some []
  | .val (.int .i64 n) :: ps => (intsOf ps).map fun l => n :: l
  | _ => none
theorem intsOf_eq : ∀ {ps : List PV} {zs : List Int}, intsOf ps = some zs → ps = zs.map fun z => .val (.int .i64 z)
  | [], zs, h => by simp [intsOf] at h; subst h; rfl
  | p :: ps, zs, h => by
    unfold intsOf at h
    split at h
    · rename_i h'; cases h'
    · rename_i n ps' h'
      injection h' with h1 h2
      subst h1; subst h2
      rw [Option.map_eq_some_iff] at h
      obtain ⟨l, h, rfl⟩ := h
      rw [intsOf_eq h]; rfl
    · cases h
@[simp] theorem intsOf_map (zs : List Int) : intsOf (zs.map fun z => .val (.int .i64 z)) = some zs := by
  induction zs with
  | nil => rfl
  | cons z zs ih => simp [intsOf, ih]
def spSort (args : List PV) (σ : List AObj) : Option (PV × List AObj) := match args with
  | [.own id ver off len] => match σ[id]? with
    | some (.row sz es ver') => match intsOf es with
      | some zs => if sz = 1 ∧ ver = ver' ∧ ver < 1000000 ∧ off = 0 ∧ len = es.length ∧ 0 < len ∧ len ≤ 1000000 then some (.tup [], σ.set id (.row 1 ((sortI zs).map fun z => .val (.int .i64 z)) ver)) else none
      | none => none
    | _ => none
  | _ => none
theorem flat_ints (zs : List Int) : (zs.map fun z => PV.val (.int .i64 z)).flatMap PV.cells = zs.map fun z => PV.val (.int .i64 z) := by
  induction zs with
  | nil => rfl
  | cons z zs ih => simp only [List.map_cons, List.flatMap_cons, ih]; rfl
/-- What the library's sort does with a row of integers (its contract). -/
def Sorts (P : Program) (f : FuncId) : Prop := ∀ (blk off cap : Nat) (zs : List Int) (w : World), Holds (Value.int .i64) w blk off zs.toArray → blk < w.heap.size → zs.length < 4611686018427387904 →
  Calls P f #[.slice (some ⟨blk, off, none⟩) zs.length cap] w fun e w' =>
    e = .returned (.tuple #[]) ∧ ∃ n os, w' = grow (putRow (Value.int .i64) (Sort.ahead w n) blk off (zs.mergeSort fun x y => decide (x ≤ y)).toArray) os
theorem spSort_ok {P : Program} {f : FuncId} (hc : callable P f = true) (hS : Sorts P f) : callable P f = true ∧ ∀ args σ r, spSort args σ = some r → Gets P f args σ r := by
  refine ⟨hc, fun args σ r h => ?_⟩
  unfold spSort at h
  split at h
  case h_2 => cases h
  rename_i id ver off len
  split at h
  case h_2 => cases h
  rename_i sz es ver' hσ
  split at h
  case h_2 => cases h
  rename_i zs hz
  split at h
  case isFalse => cases h
  rename_i hh
  obtain ⟨rfl, rfl, hv, rfl, rfl, hl0, hl1⟩ := hh
  injection h with h; subst h
  have hes := intsOf_eq hz
  have hzl : es.length = zs.length := by rw [hes, List.length_map]
  intro g vs hg hst hr
  obtain ⟨c, ds, rfl, hr1, hr2⟩ := hr.uncons
  have hds : ds = [] := List.eq_nil_of_length_eq_zero (by have := hr2.1; simpa using this)
  subst hds
  obtain ⟨a, cap, rfl, hle, sz', es', ver'', k1, k2, k3⟩ := R_own.1 hr1
  rw [hg, hσ] at k1
  injection k1 with k1; injection k1 with k4 k5 k6
  subst k4; subst k5; subst k6
  obtain ⟨_, k3⟩ := k3 rfl
  have hσ' : g.σ[id]? = some (.row 1 es ver) := by rw [hg]; exact hσ
  rcases hst.obj id 1 es ver hσ' with ⟨b, cs, e, fr, q1, q2, q3, q4, q5, q6⟩ | ⟨_, q2⟩
  · rw [q1] at k3
    obtain ⟨k3, s, k7, k8⟩ := k3
    have ha := k3 (by omega)
    simp only [Nat.zero_mul] at ha
    subst ha
    have hbl : b < g.w.heap.size := (Array.getElem?_eq_some_iff.1 q2).1
    have hfl : es.flatMap PV.cells = zs.map fun z => PV.val (.int .i64 z) := by rw [hes, flat_ints]
    have hcell : ∀ j (hj : j < zs.length), cs[j]? = some (.int .i64 zs[j]) := fun j hj => by
      obtain ⟨v, v1, v2⟩ := q6 j (.val (.int .i64 zs[j])) (by rw [hfl]; simp [hj])
      rw [R_val] at v2
      rw [v1, v2]
    have hH : Holds (Value.int .i64) g.w b 0 zs.toArray := by
      intro j hj
      have hj : j < zs.length := by simpa using hj
      have hjc : j < cs.size := (Array.getElem?_eq_some_iff.1 (hcell j hj)).1
      refine ⟨?_, ?_⟩
      · simp only [World.cell?, q2, Nat.zero_add]
        rw [if_neg (by simp), hcell j hj]
        simp [hj]
      · simp only [World.frozen?, q2, Nat.zero_add]
        have := q3 j hjc
        simp; omega
    rw [hzl]
    refine (hS b 0 cap zs g.w hH hbl (by omega)).mono ?_
    rintro x w' ⟨rfl, n, os, rfl⟩
    have hsl : (zs.mergeSort fun x y => decide (x ≤ y)).length = zs.length := List.length_mergeSort _
    have hheap : ∀ k, k < g.w.heap.size → (grow (putRow (Value.int .i64) (Sort.ahead g.w n) b 0 (zs.mergeSort fun x y => decide (x ≤ y)).toArray) os).heap[k]? = if b = k then (g.w.heap[k]?).map (onCells (putCells (Value.int .i64) 0 (zs.mergeSort fun x y => decide (x ≤ y)).toArray)) else g.w.heap[k]? := fun k hk => by
      rw [heap_grow_old _ _ (by simpa [Sort.ahead] using hk)]
      simp only [putRow, mapBlock, Sort.ahead, Array.getElem?_modify]
    have hb' := hheap b hbl
    rw [if_pos rfl, q2] at hb'
    simp only [Option.map_some, onCells] at hb'
    have hcs : ∀ j, j < cs.size → (putCells (Value.int .i64) 0 (zs.mergeSort fun x y => decide (x ≤ y)).toArray cs)[j]? = if h : j < zs.length then some (.int .i64 ((zs.mergeSort fun x y => decide (x ≤ y))[j]'(by omega))) else cs[j]? := fun j hj => by
      simp only [putCells, Array.getElem?_mapIdx, Array.getElem?_eq_getElem hj, Option.map_some]
      by_cases c : j < zs.length
      · rw [dif_pos c, if_pos (by simp [hsl, c])]
        simp [hsl, c]
      · rw [dif_neg c, if_neg (by simp [hsl]; omega)]
    have hsz : (putCells (Value.int .i64) 0 (zs.mergeSort fun x y => decide (x ≤ y)).toArray cs).size = cs.size := by simp [putCells]
    obtain ⟨u1, u2⟩ := St.upd (g := g) (id := id) (sz := 1) (ver := ver) (ver' := ver) (es := es) (es' := (sortI zs).map fun z => .val (.int .i64 z)) (ob := some b) (w' := grow (putRow (Value.int .i64) (Sort.ahead g.w n) b 0 (zs.mergeSort fun x y => decide (x ≤ y)).toArray) os) hst hσ' rfl rfl rfl (by simp [Sort.ahead])
      (fun k hk hn => by rw [hheap k hk, if_neg (fun e => hn (by rw [q1, e]))]) (fun b' hb => by injection hb with hb; subst hb; exact .inl q1) (Nat.le_refl _)
      (fun _ => ⟨by simp [sortI, hsl, hzl], q1, fun b' hb => by injection hb with hb; subst hb; simp only [blockSize, hb', q2, hsz]⟩)
      (.inl ⟨b, _, e, fr, rfl, hb', fun j hj => q3 j (by rw [hsz] at hj; exact hj), fun x hx => by obtain ⟨z, _, rfl⟩ := List.mem_map.1 hx; rfl, by rw [hsz]; simp [sortI, hsl]; rw [← hzl]; simpa using q5, fun j p hp => by
        rw [flat_ints, List.getElem?_map] at hp
        cases hg : (sortI zs)[j]? with
        | none => rw [hg] at hp; cases hp
        | some z =>
          rw [hg] at hp
          injection hp with hp; subst hp
          have hj := (List.getElem?_eq_some_iff.1 hg).1
          have hj2 : j < zs.length := by simpa [sortI, hsl] using hj
          have hjc : j < cs.size := (Array.getElem?_eq_some_iff.1 (hcell j hj2)).1
          refine ⟨.int .i64 z, ?_, R_val.2 rfl⟩
          rw [hcs j hjc, dif_pos hj2]
          have := (List.getElem?_eq_some_iff.1 hg).2
          rw [← this]; rfl⟩)
      (fun hv' => by omega)
    have hρ : g.ρ.set id (some b) = g.ρ := by
      apply List.ext_getElem?
      intro i
      rw [List.getElem?_set]
      by_cases c : id = i
      · subst c
        rw [if_pos rfl, if_pos (by exact (List.getElem?_eq_some_iff.1 q1).1), q1]
      · rw [if_neg c]
    refine ⟨.tuple #[], .tup [], _, _, rfl, u1, u2, ?_, rfl, by rw [hg]⟩
    exact ⟨1, by simp only [VR]; exact ⟨[], rfl, rfl, fun j p v hp _ => by simp at hp⟩⟩
  · rw [q2] at hl0; simp at hl0
end Aw
end Go.Proofs.Ytoliadfdklfmfaa
