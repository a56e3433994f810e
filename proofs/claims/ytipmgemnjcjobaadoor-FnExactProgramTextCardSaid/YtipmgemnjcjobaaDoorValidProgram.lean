/- Validity of programs: the program's and the reference's. -/
import Derived.Test.YtipmgemnjcjobaaDoorSmall
import Derived.Test.YtipmgemnjcjobaaDoorSls
set_option linter.unusedVariables false
set_option linter.unusedSimpArgs false
set_option maxRecDepth 100000
namespace Go.Proofs.YtipmgemnjcjobaaDoor
open Aw

def okLink (n nodes : Int) (l : GLink) : Bool := inR l.frm 0 (nodes - 1) && inR l.to 0 (nodes - 1) && inR l.mdl 0 (n - 1) && (isBrk l.act || (isLet l.act && decide (l.mdl = 0)))
def okModule (n : Int) (m : GModule) : Bool := inR m.nodes 1 8 && decide (m.links.length ≤ 12) && m.links.all (okLink n m.nodes)
def okProgram (p : GProgram) : Bool := inR p.modules.length 1 4 && p.modules.all (okModule p.modules.length)

theorem ev_ValidProgram_1_1 (l : GLink) (m : GModule) (n : Int) (hm : inR m.nodes 1 8 = true) (hn : inR n 1 4 = true) :
    ev fns i_impl_ValidProgram_1_1 [l.v, .fptr [i64 m.nodes, lst 4 m.links] 0, .fptr [i64 n] 0] [] = some (bol (!okLink n m.nodes l), []) := by
  simp only [inR, Bool.and_eq_true, decide_eq_true_eq] at hm hn
  have w1 := wrap_i64 (n := m.nodes - 1) (by omega)
  have w2 := wrap_i64 (n := n - 1) (by omega)
  refine go_impl_ValidProgram_1_1 (by simp) ?_
  unfold okLink
  cases h1 : inR l.frm 0 (m.nodes - 1)
  · simp [ac_impl_ValidProgram_1_1, w1, w2, h1]
  · cases h2 : inR l.to 0 (m.nodes - 1)
    · simp [ac_impl_ValidProgram_1_1, w1, w2, h1, h2]
    · cases h3 : inR l.mdl 0 (n - 1)
      · simp [ac_impl_ValidProgram_1_1, w1, w2, h1, h2, h3]
      · cases h4 : isBrk l.act
        · cases h5 : isLet l.act
          · simp [ac_impl_ValidProgram_1_1, w1, w2, h1, h2, h3, h4, h5]
          · simp [ac_impl_ValidProgram_1_1, w1, w2, h1, h2, h3, h4, h5]
        · simp [ac_impl_ValidProgram_1_1, w1, w2, h1, h2, h3, h4]

theorem ev_ValidProgram_1 (m : GModule) (n : Int) (hn : inR n 1 4 = true) : ev fns i_impl_ValidProgram_1 [m.v, .fptr [i64 n] 0] [] = some (bol (!okModule n m), []) := by
  refine go_impl_ValidProgram_1 (by simp) ?_
  unfold okModule
  cases h1 : inR m.nodes 1 8
  · simp [ac_impl_ValidProgram_1, h1]
  · by_cases h2 : m.links.length ≤ 12
    · have hc := ev_ContainsFunc_Link m.links i_impl_ValidProgram_1_1 [.fptr [i64 m.nodes, lst 4 m.links] 0, .fptr [i64 n] 0] (by simp) (fun l => !okLink n m.nodes l) (by omega) (fun l _ => by
        have := ev_ValidProgram_1_1 l m n h1 hn
        simp at this
        simp [this])
      simp at hc
      simp [ac_impl_ValidProgram_1, h1, show ¬ ((12 : Int) < m.links.length) by omega, h2, hc, any_not_all]
    · simp [ac_impl_ValidProgram_1, h1, show ((12 : Int) < m.links.length) by omega, h2]

@[simp] theorem ev_impl_ValidProgram (p : GProgram) : ev fns i_impl_ValidProgram [p.v] [] = some (bol (okProgram p), []) := by
  refine go_impl_ValidProgram (by simp) ?_
  unfold okProgram
  cases h1 : inR p.modules.length 1 4
  · simp [ac_impl_ValidProgram, h1]
  · have hn := h1
    simp only [inR, Bool.and_eq_true, decide_eq_true_eq] at hn
    have hc := ev_ContainsFunc_Module p.modules i_impl_ValidProgram_1 [.fptr [i64 p.modules.length] 0] (by simp) (fun m => !okModule p.modules.length m) (by omega) (fun m _ => by
        have := ev_ValidProgram_1 m p.modules.length h1
        simp at this
        simp [this])
    simp at hc
    simp [ac_impl_ValidProgram, h1, hc, any_not_all]

set_option maxHeartbeats 4000000 in
theorem lo_spec_l07Ok_in (ms : List GModule) (k : Nat) (n : Int) (m : GModule) (hm : inR m.nodes 1 8 = true) (hn : inR n 1 4 = true) (hl : m.links.length ≤ 12) (ks : List KI) :
    rE fns fa_spec_l07Ok 0 (.code lo_spec_l07Ok_0 :: .inBlock 2 :: ks) [(6, i64 0), (5, .fptr [i64 m.nodes, lst 4 m.links] 0), (4, i64 k), (3, i64 n), (0, .fptr [lst 2 ms] 0)] [] =
      if m.links.all (okLink n m.nodes) = true then rE fns fa_spec_l07Ok 0 ks [(4, i64 k), (3, i64 n), (0, .fptr [lst 2 ms] 0)] [] else some (bol false, []) := by
  have hm' := hm
  have hn' := hn
  simp only [inR, Bool.and_eq_true, decide_eq_true_eq] at hm' hn'
  have w1 := wrap_i64 (n := m.nodes - 1) (by omega)
  have w2 := wrap_i64 (n := n - 1) (by omega)
  exact loop_forall (F := fun i => rE fns fa_spec_l07Ok 0 (.code lo_spec_l07Ok_0 :: .inBlock 2 :: ks) [(6, i64 i), (5, .fptr [i64 m.nodes, lst 4 m.links] 0), (4, i64 k), (3, i64 n), (0, .fptr [lst 2 ms] 0)] []) (a := m.links) (p := okLink n m.nodes)
    (fun i h => by
      have hw := wrap_i64 (n := i + 1) (by omega)
      have hin := ev_spec_l07Inner m.links[i]
      simp at hin
      rw [l_spec_l07Ok_0]
      unfold okLink
      cases h1 : inR m.links[i].frm 0 (m.nodes - 1)
      · simp [lb_spec_l07Ok_0, h, hw, w1, w2, h1]
      · cases h2 : inR m.links[i].to 0 (m.nodes - 1)
        · simp [lb_spec_l07Ok_0, h, hw, w1, w2, h1, h2]
        · cases h3 : inR m.links[i].mdl 0 (n - 1)
          · by_cases h4 : m.links[i].act = ⟨#[97]⟩
            · have h4 := eq_true h4
              simp [lb_spec_l07Ok_0, h, hw, w1, w2, h1, h2, h3, h4]
            · by_cases h5 : m.links[i].act = ⟨#[98]⟩
              · have h5 := eq_true h5
                simp [lb_spec_l07Ok_0, h, hw, w1, w2, h1, h2, h3, h4, h5]
              · cases h6 : isBrk m.links[i].act <;> simp [lb_spec_l07Ok_0, h, hw, w1, w2, h1, h2, h3, h4, h5, h6]
          · by_cases h4 : m.links[i].act = ⟨#[97]⟩
            · have hs : m.links[i].act.size = 1 := by rw [h4]; rfl
              have hL : isLet m.links[i].act = true := by rw [h4]; rfl
              have hB : isBrk m.links[i].act = false := by rw [h4]; rfl
              have h4 := eq_true h4
              by_cases h7 : m.links[i].mdl = 0
              · have h7 := eq_true h7; simp [lb_spec_l07Ok_0, h, hw, w1, w2, h1, h2, h3, hs, hin, h7, hL, hB, h4]
              · simp [lb_spec_l07Ok_0, h, hw, w1, w2, h1, h2, h3, hs, hin, h7, hL, hB, h4]
            · by_cases h5 : m.links[i].act = ⟨#[98]⟩
              · have hs : m.links[i].act.size = 1 := by rw [h5]; rfl
                have hL : isLet m.links[i].act = true := by rw [h5]; rfl
                have hB : isBrk m.links[i].act = false := by rw [h5]; rfl
                have h5 := eq_true h5
                by_cases h7 : m.links[i].mdl = 0
                · have h7 := eq_true h7; simp [lb_spec_l07Ok_0, h, hw, w1, w2, h1, h2, h3, hs, hin, h7, hL, hB, h4, h5]
                · simp [lb_spec_l07Ok_0, h, hw, w1, w2, h1, h2, h3, hs, hin, h7, hL, hB, h4, h5]
              · have hL : isLet m.links[i].act = false := by simp [isLet, h4, h5]
                cases h6 : isBrk m.links[i].act
                · simp [lb_spec_l07Ok_0, h, hw, w1, w2, h1, h2, h3, h4, h5, h6, hL]
                · have hs := isBrk_size h6
                  simp [lb_spec_l07Ok_0, h, hw, w1, w2, h1, h2, h3, h4, h5, h6, hin, hs, hL])
    (by rw [l_spec_l07Ok_0]; simp [lb_spec_l07Ok_0])

theorem ev_spec_l07Ok (p : GProgram) : ev fns i_spec_l07Ok [.fptr [lst 2 p.modules] 0] [] = some (bol (okProgram p), []) := by
  refine go_spec_l07Ok (by simp) ?_
  unfold okProgram
  cases h0 : inR p.modules.length 1 4
  · simp [ac_spec_l07Ok, h0]
  · have hn := h0
    simp only [inR, Bool.and_eq_true, decide_eq_true_eq] at hn
    have lo := fun ks => loop_forall (F := fun k => rE fns fa_spec_l07Ok 0 (.code lo_spec_l07Ok_1 :: .inBlock 0 :: ks) [(4, i64 k), (3, i64 p.modules.length), (0, .fptr [lst 2 p.modules] 0)] []) (a := p.modules) (p := okModule p.modules.length)
      (e := rE fns fa_spec_l07Ok 0 ks [] []) (r := some (bol false, []))
      (fun k h => by
        have hw := wrap_i64 (n := k + 1) (by omega)
        rw [l_spec_l07Ok_1]
        unfold okModule
        cases h1 : inR p.modules[k].nodes 1 8
        · simp [lb_spec_l07Ok_1, h, hw, h1]
        · by_cases h2 : p.modules[k].links.length ≤ 12
          · have q := lo_spec_l07Ok_in p.modules k p.modules.length p.modules[k] h1 h0 h2
            simp at q
            refine ⟨fun c => ?_, fun c => ?_⟩
            · simp only [Bool.true_and, h2, decide_true] at c
              rw [List.all_eq_true] at c
              simp [lb_spec_l07Ok_1, h, hw, h1, h2, show ¬ ((12 : Int) < p.modules[k].links.length) by omega, q, eq_true c]
            · simp only [Bool.true_and, h2, decide_true] at c
              have c' : ¬ ∀ x ∈ p.modules[k].links, okLink p.modules.length p.modules[k].nodes x = true := by
                intro hh; rw [List.all_eq_true.2 hh] at c; cases c
              simp [lb_spec_l07Ok_1, h, hw, h1, h2, show ¬ ((12 : Int) < p.modules[k].links.length) by omega, q, eq_false c']
          · simp [lb_spec_l07Ok_1, h, hw, h1, h2, show ((12 : Int) < p.modules[k].links.length) by omega])
      (by rw [l_spec_l07Ok_1]; simp [lb_spec_l07Ok_1])
    simp at lo
    cases c : p.modules.all (okModule p.modules.length)
    · have c' : ¬ ∀ x ∈ p.modules, okModule p.modules.length x = true := by
        intro hh; rw [List.all_eq_true.2 hh] at c; cases c
      simp [ac_spec_l07Ok, h0, lo, eq_false c']
    · have c' := List.all_eq_true.1 c
      simp [ac_spec_l07Ok, h0, lo, eq_true c']
end Go.Proofs.YtipmgemnjcjobaaDoor
