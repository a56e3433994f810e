/- Arguments that came in, opened as typed data. -/
import Derived.Test.YtoliadfdklfmfaaSiz
import Derived.ChangeArms
import Derived.ChangeShapes
import Derived.WalkKit
set_option linter.unusedVariables false
set_option linter.unusedSimpArgs false
namespace Go.Proofs.Ytoliadfdklfmfaa
open Aw Go.ChangeShapes

/-- What is read at a type is such data. -/
def Opn (P : Program) (t : TypeId) (α : Type) [Enc α] [Siz α] : Prop :=
  ∀ {H : Type} (enc : TypeId × Value → H) (w : World) (fuel : Nat) (cs : List Value) (y : DataW H × List MemPlace), DataW.trod enc P w 0 (fun _ => true) true fuel t cs = some y →
    ∃ a : α, Rs ⟨[], [], w, []⟩ (Enc.pv a).cells cs ∧ Siz.fits a

theorem Rs.one {g : G} {p : PV} {v : Value} (h : R g p v) : Rs g [p] [v] :=
  ⟨rfl, fun j q u hq hu => by cases j with | zero => simp at hq hu; subst hq; subst hu; exact h | succ j => simp at hq⟩
theorem Rs.head {g : G} {p : PV} {v : Value} {ps : List PV} {vs : List Value} (h : Rs g (p :: ps) (v :: vs)) : R g p v := h.2 0 p v rfl rfl
theorem Rs.cons {g : G} {p : PV} {v : Value} {ps : List PV} {vs : List Value} (h : R g p v) (k : Rs g ps vs) : Rs g (p :: ps) (v :: vs) :=
  ⟨by simp [k.1], fun j q u hq hu => by
    cases j with
    | zero => simp at hq hu; subst hq; subst hu; exact h
    | succ j => exact k.2 j q u (by simpa using hq) (by simpa using hu)⟩

theorem opn_int {P : Program} {t : TypeId} (ht : P.underlying t = some (.int .i64)) : Opn P t Int := by
  intro H enc w fuel cs y h
  obtain ⟨n, rfl, _, _⟩ := DataW.trod_int ht h
  exact ⟨n, Rs.one (R_val.2 rfl), trivial⟩
theorem opn_bool {P : Program} {t : TypeId} (ht : P.underlying t = some .bool) : Opn P t Bool := by
  intro H enc w fuel cs y h
  obtain ⟨n, rfl, _⟩ := DataW.trod_bool ht h
  exact ⟨n, Rs.one (R_val.2 rfl), trivial⟩
theorem opn_str {P : Program} {t : TypeId} (ht : P.underlying t = some .string) : Opn P t ByteArray := by
  intro H enc w fuel cs y h
  obtain ⟨s, rfl, _, hs⟩ := DataW.trod_string ht h
  exact ⟨s, Rs.one (R_val.2 rfl), by have : maxLen = 9223372036854775807 := rfl; rw [fits_str]; omega⟩

theorem opn_list {P : Program} {t e : TypeId} {α : Type} [Enc α] [Siz α] (ht : P.underlying t = some (.slice e)) (hc : P.cellsOf e = Enc.sz α) (hpos : 0 < Enc.sz α) (h : Opn P e α) : Opn P t (List α) := by
  intro H enc w fuel cs y hy
  rcases DataW.trod_slice ht hy with ⟨rfl, _⟩ | ⟨a, len, cap, elems, rest, n, _, rfl, _, _, hle, hcap, hlen, hel, _, _⟩
  · refine ⟨[], Rs.one (R_list.2 ⟨none, 0, rfl, ⟨Nat.le_refl _, fun _ => rfl⟩, by simp, by simp, by simp, fun h => by simp at h⟩), by simp, by simp⟩
  · have hm : maxLen = 9223372036854775807 := rfl
    have each : ∀ i : Fin len, ∃ x : α, ∃ ci, w.cells? 0 (a.add (i * Enc.sz α)) (Enc.sz α) = some ci ∧ Rs ⟨[], [], w, []⟩ (Enc.pv x).cells ci ∧ Siz.fits x := by
      intro i
      have := hel i.1 i.2
      have hi : elems[i.1]? = some (elems[i.1]'(by rw [hlen]; exact i.2)) := List.getElem?_eq_getElem _
      rw [hi, Option.bind_eq_some_iff] at this
      obtain ⟨ci, h1, h2⟩ := this
      rw [hc] at h1
      obtain ⟨x, k1, k2⟩ := h enc w _ _ _ h2
      exact ⟨x, ci, h1, k1, k2⟩
    let xs : List α := List.ofFn fun i : Fin len => Classical.choose (each i)
    have hxl : xs.length = len := by simp [xs]
    have hx : ∀ (i : Nat) (x : α), xs[i]? = some x → ∃ ci, w.cells? 0 (a.add (i * Enc.sz α)) (Enc.sz α) = some ci ∧ Rs ⟨[], [], w, []⟩ (Enc.pv x).cells ci ∧ Siz.fits x := by
      intro i x hi
      have hlt : i < len := by rw [← hxl]; exact (List.getElem?_eq_some_iff.1 hi).1
      have e : x = Classical.choose (each ⟨i, hlt⟩) := by
        obtain ⟨_, he⟩ := List.getElem?_eq_some_iff.1 hi
        rw [← he]; simp [xs]
      rw [e]; exact Classical.choose_spec (each ⟨i, hlt⟩)
    have hq : ∀ x ∈ xs.map Enc.pv, x.cells.length = Enc.sz α := by
      intro p hp
      obtain ⟨x, _, rfl⟩ := List.mem_map.1 hp
      exact Enc.cells x
    refine ⟨xs, Rs.one ?_, ⟨by rw [hxl]; omega, fun x hx' => ?_⟩⟩
    · refine R_list.2 ⟨some a, cap, by simp [hxl], ⟨by simp [hxl, hle], fun h => by cases h⟩, by simp [hxl]; omega, by simp, fun p hp => ⟨?_, hq p hp⟩, fun h0 => ⟨a, rfl, ?_, ⟨?_, fun i hi => by simp at hi, by simp⟩, fun j p hp => ?_⟩⟩
      · obtain ⟨x, _, rfl⟩ := List.mem_map.1 hp
        exact bel_pv x 0
      · -- the address is plain
        have h0' : 0 < len := by simpa [hxl] using h0
        obtain ⟨x, ci, h1, h2, _⟩ := each ⟨0, h0'⟩
        obtain ⟨_, hl, hcell⟩ := World.cells?_some h1
        have g0 := hcell 0 hpos
        rw [List.getElem?_eq_getElem (by rw [hl]; exact hpos)] at g0
        obtain ⟨b, off, spot⟩ := a
        simpa [Addr.add] using World.cell?_spot g0
      · have h0' : 0 < len := by simpa [hxl] using h0
        obtain ⟨x, ci, h1, h2, _⟩ := each ⟨0, h0'⟩
        obtain ⟨_, hl, hcell⟩ := World.cells?_some h1
        have g0 := hcell 0 hpos
        rw [List.getElem?_eq_getElem (by rw [hl]; exact hpos)] at g0
        have hb : ∀ (ad : Addr) v, w.cell? ad = some v → ad.block < w.heap.size := by
          intro ad v hv
          rcases Nat.lt_or_ge ad.block w.heap.size with h | h
          · exact h
          · unfold World.cell? at hv
            rw [Array.getElem?_eq_none h] at hv
            simp at hv
        have := hb _ _ g0
        rwa [addr_add_block, addr_add_block] at this
      · rw [flat_at hpos hq] at hp
        cases hxj : (xs.map Enc.pv)[j / Enc.sz α]? with
        | none => rw [hxj] at hp; simp at hp
        | some q =>
          rw [hxj] at hp; simp only [Option.bind_some] at hp
          rw [List.getElem?_map, Option.map_eq_some_iff] at hxj
          obtain ⟨x, hx1, rfl⟩ := hxj
          obtain ⟨ci, h1, h2, _⟩ := hx _ x hx1
          obtain ⟨_, hl, hcell⟩ := World.cells?_some h1
          have hmod : j % Enc.sz α < Enc.sz α := Nat.mod_lt _ hpos
          have g0 := hcell _ hmod
          have hv : ci[j % Enc.sz α]? = some (ci[j % Enc.sz α]'(by rw [hl]; exact hmod)) := List.getElem?_eq_getElem _
          rw [hv] at g0
          refine ⟨_, ?_, h2.2 _ p _ hp hv⟩
          rw [← g0]
          show w.cell? _ = w.cell? _
          congr 1
          have hs : (a.add (j / Enc.sz α * Enc.sz α)).add (j % Enc.sz α) = a.add (j / Enc.sz α * Enc.sz α + j % Enc.sz α) := by
            obtain ⟨ab, ao, asp⟩ := a
            by_cases q1 : j / Enc.sz α * Enc.sz α = 0
            · by_cases q2 : j % Enc.sz α = 0
              · simp [Addr.add, q1, q2]
              · simp [Addr.add, q1, q2]
            · by_cases q2 : j % Enc.sz α = 0
              · simp [Addr.add, q1, q2]
              · simp [Addr.add, q1, q2]; omega
          rw [hs]
          congr 1
          have := Nat.div_add_mod j (Enc.sz α)
          rw [Nat.mul_comm] at this; omega
    · obtain ⟨i, hi⟩ := List.mem_iff_getElem?.1 hx'
      obtain ⟨_, _, _, hf⟩ := hx i x hi
      exact hf

/-- A value that is a struct of cells, or a cell. -/
theorem opn_val {P : Program} {t : TypeId} {α : Type} [Enc α] [Siz α] (h : Opn P t α) {H : Type} {enc : TypeId × Value → H} {w : World} {v : Value} {d : DataW H} {ps : List MemPlace} (hd : DataW.Trod enc P w 0 (fun _ => true) true t v d ps) :
    ∃ a : α, Rs ⟨[], [], w, []⟩ (Enc.pv a).cells v.cells.toList ∧ Siz.fits a := by
  obtain ⟨fuel, hf⟩ := hd
  exact h enc w fuel _ _ hf
end Go.Proofs.Ytoliadfdklfmfaa
