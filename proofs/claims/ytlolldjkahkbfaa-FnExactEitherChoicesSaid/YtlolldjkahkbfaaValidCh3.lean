/- Choices that are valid: the reference's. -/
import Derived.Test.YtlolldjkahkbfaaValidCh2
set_option linter.unusedVariables false
set_option linter.unusedSimpArgs false
set_option maxRecDepth 100000
namespace Go.Proofs.Ytlolldjkahkbfaa
open Aw
/-! ### Choices -/
abbrev ChP (m : GChoices) : PV := .fptr [i64 m.stack, lst 1 m.starts, lst 1 m.accept, lst 1 m.call, lst 1 m.ret, lst 1 m.inner] 0
def chK (n st : Int) (c : List GPush) (r : List (List Int)) (i : List Int) : Bool := okPus n st c && okRis n i && decide ((r.length : Int) = st + 1) && r.all (okRis n)
def chRow (n st : Int) (c : List (List GPush)) (r : List (List (List Int))) (i : List (List Int)) : Bool :=
  decide (c.length = 2) && decide (r.length = 2) && decide (i.length = 2) && (List.range 2).all fun k => chK n st (c.getD k []) (r.getD k []) (i.getD k [])
def chS (m : GChoices) (s : Nat) : Bool := chRow m.accept.length m.stack (m.call.getD s []) (m.ret.getD s []) (m.inner.getD s [])
def okCh (m : GChoices) : Bool := inR m.accept.length 1 5 && inR m.stack 1 4 && okRis m.accept.length m.starts && decide (m.call.length = m.accept.length) && decide (m.ret.length = m.accept.length) && decide (m.inner.length = m.accept.length) &&
  (List.range m.accept.length).all (chS m)
theorem szc {m : GChoices} (hz : Siz.size m ≤ 1048576) : m.starts.length ≤ 1048576 ∧ (∀ c ∈ m.call, ∀ l ∈ c, l.length ≤ 1048576) ∧ (∀ c ∈ m.ret, ∀ l ∈ c, l.length ≤ 1048576 ∧ ∀ x ∈ l, x.length ≤ 1048576) ∧ ∀ c ∈ m.inner, ∀ l ∈ c, l.length ≤ 1048576 := by
  rw [size_Choices] at hz
  refine ⟨by have := Siz.len_le m.starts; omega, fun c hc l hl => ?_, fun c hc l hl => ⟨?_, fun x hx => ?_⟩, fun c hc l hl => ?_⟩
  · have := Siz.mem_le hc; have := Siz.mem_le hl; have := Siz.len_le l; omega
  · have := Siz.mem_le hc; have := Siz.mem_le hl; have := Siz.len_le l; omega
  · have := Siz.mem_le hc; have := Siz.mem_le hl; have := Siz.mem_le hx; have := Siz.len_le x; omega
  · have := Siz.mem_le hc; have := Siz.mem_le hl; have := Siz.len_le l; omega
set_option maxHeartbeats 4000000 in
theorem lo_l03_0 {m : GChoices} (hz : Siz.size m ≤ 1048576) (hn : m.accept.length ≤ 5) (s k : Nat) (hs : s < m.ret.length) (hk : k < (m.ret[s]).length) (ks : List KI) :
    rE fns fa_spec_l03Ok 0 (.code lo_spec_l03Ok_0 :: .inBlock 4 :: ks) [(6, i64 0), (5, i64 (k : Nat)), (4, i64 (s : Nat)), (3, i64 m.accept.length), (0, ChP m)] [] =
      if (m.ret[s][k]).all (okRis m.accept.length) = true then rE fns fa_spec_l03Ok 0 ks [(5, i64 (k : Nat)), (4, i64 (s : Nat)), (3, i64 m.accept.length), (0, ChP m)] [] else some (bol false, []) := by
  have sz := szc hz
  have key := loop_forall (F := fun x => rE fns fa_spec_l03Ok 0 (.code lo_spec_l03Ok_0 :: .inBlock 4 :: ks) [(6, i64 (x : Nat)), (5, i64 (k : Nat)), (4, i64 (s : Nat)), (3, i64 m.accept.length), (0, ChP m)] [])
    (a := m.ret[s][k]) (p := okRis m.accept.length) (e := rE fns fa_spec_l03Ok 0 ks [(5, i64 (k : Nat)), (4, i64 (s : Nat)), (3, i64 m.accept.length), (0, ChP m)] []) (r := some (bol false, [])) (fun x hx => by
      have hr := ev_spec_l00Rises m.accept.length (m.ret[s][k][x]) ((sz.2.2.1 _ (List.getElem_mem hs) _ (List.getElem_mem hk)).2 _ (List.getElem_mem hx))
      have hl := (sz.2.2.1 _ (List.getElem_mem hs) _ (List.getElem_mem hk)).1
      have hw := wrap_i64 (n := x + 1) (by omega)
      have w1 := wrap_i64 (n := (m.accept.length : Int) - 1) (by omega)
      rw [l_spec_l03Ok_0]
      simp at hr
      cases c : okRis m.accept.length (m.ret[s][k][x])
      · rw [c] at hr
        refine ⟨fun h => by simp at h, fun _ => ?_⟩
        simp [lb_spec_l03Ok_0, hs, hk, hx, hr, w1]
        done
      · rw [c] at hr
        refine ⟨fun _ => ?_, fun h => by simp at h⟩
        simp [lb_spec_l03Ok_0, hs, hk, hx, hr, w1, hw]
        done)
    (by
      rw [l_spec_l03Ok_0]
      simp [lb_spec_l03Ok_0, hs, hk])
  simpa using key
set_option maxHeartbeats 8000000 in
theorem lo_l03_1 {m : GChoices} (hz : Siz.size m ≤ 1048576) (hn : m.accept.length ≤ 5) (hst : 0 ≤ m.stack ∧ m.stack ≤ 4) (s : Nat) (hs : s < m.ret.length) (hsc : s < m.call.length) (hsi : s < m.inner.length) (hr2 : (m.ret[s]).length = 2) (hc2 : (m.call[s]).length = 2) (hi2 : (m.inner[s]).length = 2) (ks : List KI) :
    rE fns fa_spec_l03Ok 0 (.code lo_spec_l03Ok_1 :: .inBlock 2 :: ks) [(5, i64 0), (4, i64 (s : Nat)), (3, i64 m.accept.length), (0, ChP m)] [] =
      if (List.range 2).all (fun k => chK m.accept.length m.stack (m.call[s].getD k []) (m.ret[s].getD k []) (m.inner[s].getD k [])) = true then rE fns fa_spec_l03Ok 0 ks [(4, i64 (s : Nat)), (3, i64 m.accept.length), (0, ChP m)] [] else some (bol false, []) := by
  have sz := szc hz
  have key := loop_below (F := fun k => rE fns fa_spec_l03Ok 0 (.code lo_spec_l03Ok_1 :: .inBlock 2 :: ks) [(5, i64 (k : Nat)), (4, i64 (s : Nat)), (3, i64 m.accept.length), (0, ChP m)] [])
    (n := 2) (p := fun k => chK m.accept.length m.stack (m.call[s].getD k []) (m.ret[s].getD k []) (m.inner[s].getD k [])) (e := rE fns fa_spec_l03Ok 0 ks [(4, i64 (s : Nat)), (3, i64 m.accept.length), (0, ChP m)] []) (r := some (bol false, [])) (fun k hk => by
      have hkr : k < (m.ret[s]).length := by omega
      have hkc : k < (m.call[s]).length := by omega
      have hki : k < (m.inner[s]).length := by omega
      have h1 := ev_spec_l03Pushes m.accept.length m.stack (by omega) (by omega) (m.call[s][k]) (sz.2.1 _ (List.getElem_mem hsc) _ (List.getElem_mem hkc))
      have h2 := ev_spec_l00Rises m.accept.length (m.inner[s][k]) (sz.2.2.2 _ (List.getElem_mem hsi) _ (List.getElem_mem hki))
      have lo := fun ks => lo_l03_0 hz hn s k hs hkr ks
      have hw := wrap_i64 (n := k + 1) (by omega)
      have w1 := wrap_i64 (n := (m.accept.length : Int) - 1) (by omega)
      have w2 := wrap_i64 (n := m.stack + 1) (by omega)
      have hk2 : (k : Int) < 2 := by omega
      rw [l_spec_l03Ok_1, getD_at' hkr, getD_at' hkc, getD_at' hki]
      unfold chK
      simp at h1 h2
      cases c1 : okPus m.accept.length m.stack (m.call[s][k])
      · rw [c1] at h1
        refine ⟨fun h => by simp at h, fun _ => ?_⟩
        simp [lb_spec_l03Ok_1, hk, hk2, hs, hsc, hsi, hkr, hkc, hki, hr2, hc2, hi2, h1, w1, w2]
        done
      rw [c1] at h1
      cases c2 : okRis m.accept.length (m.inner[s][k])
      · rw [c2] at h2
        refine ⟨fun h => by simp at h, fun _ => ?_⟩
        simp [lb_spec_l03Ok_1, hk, hk2, hs, hsc, hsi, hkr, hkc, hki, hr2, hc2, hi2, h1, h2, w1, w2]
        done
      rw [c2] at h2
      by_cases c3 : ((m.ret[s][k]).length : Int) = m.stack + 1
      · cases c4 : (m.ret[s][k]).all (okRis m.accept.length)
        · rw [c4] at lo
          simp at lo
          refine ⟨fun h => by simp at h, fun _ => ?_⟩
          simp [lb_spec_l03Ok_1, hk, hk2, hs, hsc, hsi, hkr, hkc, hki, hr2, hc2, hi2, h1, h2, w1, w2, c3, lo]
          done
        · rw [c4] at lo
          simp at lo
          refine ⟨fun _ => ?_, fun h => by simp [c3] at h⟩
          simp [lb_spec_l03Ok_1, hk, hk2, hs, hsc, hsi, hkr, hkc, hki, hr2, hc2, hi2, h1, h2, w1, w2, c3, lo, hw]
          done
      · refine ⟨fun h => by simp [c3] at h, fun _ => ?_⟩
        simp [lb_spec_l03Ok_1, hk, hk2, hs, hsc, hsi, hkr, hkc, hki, hr2, hc2, hi2, h1, h2, w1, w2, c3]
        done)
    (by
      rw [l_spec_l03Ok_1]
      simp [lb_spec_l03Ok_1])
  simpa using key
set_option maxHeartbeats 8000000 in
theorem ev_spec_l03Ok (m : GChoices) (hz : Siz.size m ≤ 1048576) : ev fns i_spec_l03Ok [ChP m] [] = some (bol (okCh m), []) := by
  have sz := szc hz
  refine go_spec_l03Ok (by simp) ?_
  unfold okCh
  cases c1 : inR m.accept.length 1 5
  · simp [ac_spec_l03Ok, c1]
    done
  have c1' := c1
  cases c2 : inR m.stack 1 4
  · simp [ac_spec_l03Ok, c1, c2]
    done
  have c2' := c2
  simp only [inR, Bool.and_eq_true, decide_eq_true_eq] at c1' c2'
  have h3 := ev_spec_l00Rises m.accept.length m.starts sz.1
  have w1 := wrap_i64 (n := (m.accept.length : Int) - 1) (by omega)
  simp at h3
  cases c3 : okRis m.accept.length m.starts
  · rw [c3] at h3
    simp [ac_spec_l03Ok, c1, c2, h3, w1]
    done
  rw [c3] at h3
  by_cases c4 : m.call.length = m.accept.length
  · by_cases c5 : m.ret.length = m.accept.length
    · by_cases c6 : m.inner.length = m.accept.length
      · have lo := fun ks => loop_below (F := fun s => rE fns fa_spec_l03Ok 0 (.code lo_spec_l03Ok_2 :: .inBlock 0 :: ks) [(4, i64 (s : Nat)), (3, i64 m.accept.length), (0, ChP m)] [])
          (n := m.accept.length) (p := chS m) (e := rE fns fa_spec_l03Ok 0 ks [] []) (r := some (bol false, [])) (fun s hs => by
            have hsr : s < m.ret.length := by omega
            have hsc : s < m.call.length := by omega
            have hsi : s < m.inner.length := by omega
            have hw := wrap_i64 (n := s + 1) (by omega)
            rw [l_spec_l03Ok_2]
            unfold chS chRow
            rw [getD_at' hsr, getD_at' hsc, getD_at' hsi]
            by_cases d1 : (m.call[s]).length = 2
            · by_cases d2 : (m.ret[s]).length = 2
              · by_cases d3 : (m.inner[s]).length = 2
                · have l1 := fun ks => lo_l03_1 hz (by omega) (by omega) s hsr hsc hsi d2 d1 d3 ks
                  cases d4 : (List.range 2).all (fun k => chK m.accept.length m.stack (m.call[s].getD k []) (m.ret[s].getD k []) (m.inner[s].getD k []))
                  · rw [d4] at l1
                    simp at l1
                    refine ⟨fun h => by simp at h, fun _ => ?_⟩
                    simp [lb_spec_l03Ok_2, hs, hsr, hsc, hsi, c4, c5, c6, d1, d2, d3, l1]
                    done
                  · rw [d4] at l1
                    simp at l1
                    refine ⟨fun _ => ?_, fun h => by simp [d1, d2, d3] at h⟩
                    simp [lb_spec_l03Ok_2, hs, hsr, hsc, hsi, c4, c5, c6, d1, d2, d3, l1, hw]
                    done
                · refine ⟨fun h => by simp [d3] at h, fun _ => ?_⟩
                  simp [lb_spec_l03Ok_2, hs, hsr, hsc, hsi, c4, c5, c6, d1, d2, show ¬ (((m.inner[s]).length : Int) = 2) by omega]
                  done
              · refine ⟨fun h => by simp [d2] at h, fun _ => ?_⟩
                simp [lb_spec_l03Ok_2, hs, hsr, hsc, hsi, c4, c5, c6, d1, show ¬ (((m.ret[s]).length : Int) = 2) by omega]
                done
            · refine ⟨fun h => by simp [d1] at h, fun _ => ?_⟩
              simp [lb_spec_l03Ok_2, hs, hsr, hsc, hsi, c4, c5, c6, show ¬ (((m.call[s]).length : Int) = 2) by omega]
              done)
          (by
            rw [l_spec_l03Ok_2]
            simp [lb_spec_l03Ok_2])
        cases c7 : (List.range m.accept.length).all (chS m)
        · rw [c7] at lo
          simp at lo
          simp [ac_spec_l03Ok, c1, c2, h3, w1, c4, c5, c6, lo]
          done
        · rw [c7] at lo
          simp at lo
          simp [ac_spec_l03Ok, c1, c2, h3, w1, c4, c5, c6, lo]
          done
      · simp [ac_spec_l03Ok, c1, c2, h3, w1, c4, c5, c6, show ¬ ((m.inner.length : Int) = m.accept.length) by omega]
        done
    · simp [ac_spec_l03Ok, c1, c2, h3, w1, c4, c5, show ¬ ((m.ret.length : Int) = m.accept.length) by omega]
      done
  · simp [ac_spec_l03Ok, c1, c2, h3, w1, c4, show ¬ ((m.call.length : Int) = m.accept.length) by omega]
    done
end Go.Proofs.Ytlolldjkahkbfaa
