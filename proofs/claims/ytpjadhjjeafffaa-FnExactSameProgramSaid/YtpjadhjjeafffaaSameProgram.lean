/- Equality of programs: the program's and the reference's. -/
import Derived.Test.YtpjadhjjeafffaaDat
import Derived.Test.YtpjadhjjeafffaaLoops
set_option linter.unusedVariables false
set_option linter.unusedSimpArgs false
set_option maxRecDepth 100000
namespace Go.Proofs.Ytpjadhjjeafffaa
open Aw

@[simp] theorem ev_slices_Equal_Link (a b : List GLink) (ha : a.length ≤ 1048576) : ev fns i_slices_Equal_L_impl_Link [lst 4 a, lst 4 b] [] = some (bol (decide (a = b)), []) := by
  refine go_slices_Equal_L_impl_Link (by simp) ?_
  by_cases hr : a.length = b.length
  · have lo := fun ks => loop_eq (F := fun k => rE fns fa_slices_Equal_L_impl_Link 0 (.code lo_slices_Equal_L_impl_Link_0 :: .inBlock 0 :: ks) [(0, lst 4 a), (1, lst 4 b), (12, i64 a.length), (13, i64 k)] []) hr
      (e := rE fns fa_slices_Equal_L_impl_Link 0 ks [] []) (r := some (bol false, []))
      (fun k h h' => by
        have hw := wrap_i64 (n := k + 1) (by omega)
        rw [l_slices_Equal_L_impl_Link_0, Ne, GLink.eq_iff]
        refine ⟨fun c => ?_, fun c => ?_⟩ <;> simp [lb_slices_Equal_L_impl_Link_0, h, h', hw, c])
      (by rw [l_slices_Equal_L_impl_Link_0]; simp [lb_slices_Equal_L_impl_Link_0])
    simp at lo
    by_cases c : a = b
    · simpa [ac_slices_Equal_L_impl_Link, ← hr, (lo _).1 c] using c
    · simp [ac_slices_Equal_L_impl_Link, ← hr, (lo _).2 c, c]
  · have c : a ≠ b := fun e => hr (by rw [e])
    simp [ac_slices_Equal_L_impl_Link, c, show ¬ ((a.length : Int) = b.length) by omega, hr]

theorem ev_SameProgram_1 (a b : GModule) (ha : Siz.size a ≤ 1048576) : ev fns i_impl_SameProgram_1 [a.v, b.v] [] = some (bol (decide (a = b)), []) := by
  refine go_impl_SameProgram_1 (by simp) ?_
  rw [size_Module] at ha
  have hl := Siz.len_le a.links
  have h1 := ev_slices_Equal_Link a.links b.links (by omega)
  simp only [GModule.eq_iff]
  by_cases c : a.nodes = b.nodes
  · simp [ac_impl_SameProgram_1, c, h1]
  · simp [ac_impl_SameProgram_1, c]

theorem ev_slices_EqualFunc_Module (a b : List GModule) (ha : Siz.size a ≤ 1048576) : ev fns i_slices_EqualFunc_L_impl_Module [lst 2 a, lst 2 b, .val (.func (.func i_impl_SameProgram_1) #[] #[])] [] = some (bol (decide (a = b)), []) := by
  refine go_slices_EqualFunc_L_impl_Module (by simp) ?_
  have hl := Siz.len_le a
  by_cases hr : a.length = b.length
  · have lo := fun ks => loop_eq (F := fun k => rE fns fa_slices_EqualFunc_L_impl_Module 0 (.code lo_slices_EqualFunc_L_impl_Module_0 :: .inBlock 0 :: ks) [(1, lst 2 b), (2, .val (.func (.func i_impl_SameProgram_1) #[] #[])), (15, lst 2 a), (16, i64 a.length), (17, i64 k)] []) hr
      (e := rE fns fa_slices_EqualFunc_L_impl_Module 0 ks [] []) (r := some (bol false, []))
      (fun k h h' => by
        have hw := wrap_i64 (n := k + 1) (by omega)
        have hc := ev_SameProgram_1 a[k] b[k] (by have := Siz.mem_le (List.getElem_mem h); omega)
        rw [l_slices_EqualFunc_L_impl_Module_0, Ne]
        refine ⟨fun c => ?_, fun c => ?_⟩
        · simp [c] at hc; simp [lb_slices_EqualFunc_L_impl_Module_0, h, h', hw, c, hc]
        · simp [c] at hc; simp [lb_slices_EqualFunc_L_impl_Module_0, h, h', hw, c, hc])
      (by rw [l_slices_EqualFunc_L_impl_Module_0]; simp [lb_slices_EqualFunc_L_impl_Module_0])
    simp at lo
    by_cases c : a = b
    · simpa [ac_slices_EqualFunc_L_impl_Module, ← hr, (lo _).1 c] using c
    · simp [ac_slices_EqualFunc_L_impl_Module, ← hr, (lo _).2 c, c]
  · have c : a ≠ b := fun e => hr (by rw [e])
    simp [ac_slices_EqualFunc_L_impl_Module, c, show ¬ ((a.length : Int) = b.length) by omega, hr]

@[simp] theorem ev_impl_SameProgram (a b : GProgram) (ha : Siz.size a ≤ 1048576) : ev fns i_impl_SameProgram [a.v, b.v] [] = some (bol (decide (a = b)), []) := by
  refine go_impl_SameProgram (by simp) ?_
  rw [size_Program] at ha
  have h1 := ev_slices_EqualFunc_Module a.modules b.modules ha
  simp [ac_impl_SameProgram, h1, GProgram.eq_iff]

theorem lo_spec_SameProgram_in (a b : List GModule) (ha : Siz.size a ≤ 1048576) (m : Nat) (h : m < a.length) (h' : m < b.length) (hl : a[m].links.length = b[m].links.length) (ks : List KI) :
    (a[m].links = b[m].links → rE fns fa_spec_SameProgram 0 (.code lo_spec_SameProgram_0 :: .inBlock 2 :: ks) [(2, .fptr [lst 2 a] 0), (3, .fptr [lst 2 b] 0), (5, i64 m), (6, i64 0)] [] = rE fns fa_spec_SameProgram 0 ks [(2, .fptr [lst 2 a] 0), (3, .fptr [lst 2 b] 0), (5, i64 m)] []) ∧
    (a[m].links ≠ b[m].links → rE fns fa_spec_SameProgram 0 (.code lo_spec_SameProgram_0 :: .inBlock 2 :: ks) [(2, .fptr [lst 2 a] 0), (3, .fptr [lst 2 b] 0), (5, i64 m), (6, i64 0)] [] = some (bol false, [])) := by
  have hm := Siz.mem_le (List.getElem_mem h)
  rw [size_Module] at hm
  have hm2 := Siz.len_le a[m].links
  exact loop_eq (F := fun k => rE fns fa_spec_SameProgram 0 (.code lo_spec_SameProgram_0 :: .inBlock 2 :: ks) [(2, .fptr [lst 2 a] 0), (3, .fptr [lst 2 b] 0), (5, i64 m), (6, i64 k)] []) hl
    (fun k h1 h2 => by
      have hw := wrap_i64 (n := k + 1) (by omega)
      rw [l_spec_SameProgram_0, Ne, GLink.eq_iff]
      refine ⟨fun c => ?_, fun c => ?_⟩ <;> simp [lb_spec_SameProgram_0, h, h', h1, h2, hw, c])
    (by rw [l_spec_SameProgram_0]; simp [lb_spec_SameProgram_0, h, h'])

@[simp] theorem ev_spec_SameProgram (a b : GProgram) (ha : Siz.size a ≤ 1048576) : ev fns i_spec_SameProgram [a.v, b.v] [] = some (bol (decide (a = b)), []) := by
  refine go_spec_SameProgram (by simp) ?_
  rw [size_Program] at ha
  simp only [GProgram.eq_iff]
  obtain ⟨a⟩ := a
  obtain ⟨b⟩ := b
  simp only at ha ⊢
  have hl := Siz.len_le a
  by_cases hr : a.length = b.length
  · have lo := fun ks => loop_eq (F := fun k => rE fns fa_spec_SameProgram 0 (.code lo_spec_SameProgram_1 :: .inBlock 0 :: ks) [(2, .fptr [lst 2 a] 0), (3, .fptr [lst 2 b] 0), (5, i64 k)] []) hr
      (e := rE fns fa_spec_SameProgram 0 ks [] []) (r := some (bol false, []))
      (fun k h h' => by
        have hw := wrap_i64 (n := k + 1) (by omega)
        rw [l_spec_SameProgram_1, Ne, GModule.eq_iff]
        by_cases c1 : a[k].nodes = b[k].nodes
        · by_cases c2 : a[k].links.length = b[k].links.length
          · have q := lo_spec_SameProgram_in a b ha k h h' c2
            simp at q
            by_cases c3 : a[k].links = b[k].links
            · have q := fun ks => (q ks).1 c3
              simp [lb_spec_SameProgram_1, h, h', hw, c1, c2, q]; exact fun h => absurd c3 h
            · have q := fun ks => (q ks).2 c3
              simp [lb_spec_SameProgram_1, h, h', hw, c1, c2, c3, q]
          · have c3 : a[k].links ≠ b[k].links := fun e => c2 (by rw [e])
            simp [lb_spec_SameProgram_1, h, h', hw, c1, c2, c3]
        · simp [lb_spec_SameProgram_1, h, h', hw, c1])
      (by rw [l_spec_SameProgram_1]; simp [lb_spec_SameProgram_1])
    simp at lo
    by_cases c : a = b
    · simpa [ac_spec_SameProgram, ← hr, (lo _).1 c] using c
    · simp [ac_spec_SameProgram, ← hr, (lo _).2 c, c]
  · have c : a ≠ b := fun e => hr (by rw [e])
    simp [ac_spec_SameProgram, c, show ¬ ((a.length : Int) = b.length) by omega, hr]
end Go.Proofs.Ytpjadhjjeafffaa
