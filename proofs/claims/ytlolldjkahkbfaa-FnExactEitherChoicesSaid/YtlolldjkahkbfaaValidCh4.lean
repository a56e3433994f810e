/- Choices that are valid: the program's. -/
import Derived.Test.YtlolldjkahkbfaaValidCh3
set_option linter.unusedVariables false
set_option linter.unusedSimpArgs false
set_option maxRecDepth 100000
namespace Go.Proofs.Ytlolldjkahkbfaa
open Aw
/-! ### The program's -/
theorem ev_szB (l : List Bool) : ev fns i_impl_size_bool [lst 1 l] [] = some (i64 l.length, []) := by
  refine go_impl_size_bool (by simp) ?_
  simp [ac_impl_size_bool]
theorem ev_szC (l : List (List (List GPush))) : ev fns i_impl_size_L_L_impl_Push [lst 1 l] [] = some (i64 l.length, []) := by
  refine go_impl_size_L_L_impl_Push (by simp) ?_
  simp [ac_impl_size_L_L_impl_Push]
theorem ev_szR (l : List (List (List (List Int)))) : ev fns i_impl_size_L_L_L_int64 [lst 1 l] [] = some (i64 l.length, []) := by
  refine go_impl_size_L_L_L_int64 (by simp) ?_
  simp [ac_impl_size_L_L_L_int64]
theorem ev_szI (l : List (List (List Int))) : ev fns i_impl_size_L_L_int64 [lst 1 l] [] = some (i64 l.length, []) := by
  refine go_impl_size_L_L_int64 (by simp) ?_
  simp [ac_impl_size_L_L_int64]
theorem ev_szL (l : List (List Int)) : ev fns i_impl_size_L_int64 [lst 1 l] [] = some (i64 l.length, []) := by
  refine go_impl_size_L_int64 (by simp) ?_
  simp [ac_impl_size_L_int64]
theorem ev_VCh_1 (n : Int) (hn : 0 ≤ n ∧ n ≤ 1048576) (l : List Int) (hl : l.length ≤ 1048576) : ev fns i_impl_ValidChoices_1 [lst 1 l, .fptr [i64 n] 0] [] = some (bol (!okRis n l), []) := by
  have h := ev_impl_isRising n hn l hl
  refine go_impl_ValidChoices_1 (by simp) ?_
  simp at h
  simp [ac_impl_ValidChoices_1, h]
set_option maxHeartbeats 8000000 in
theorem lo_VCh_0 {m : GChoices} (hz : Siz.size m ≤ 1048576) (hn : m.accept.length ≤ 5) (hst : 0 ≤ m.stack ∧ m.stack ≤ 4) (s k : Nat) (hs : s < m.call.length) (hk : k < (m.call[s]).length) (ks : List KI) :
    rE fns fa_impl_ValidChoices 0 (.code lo_impl_ValidChoices_0 :: .inBlock 4 :: ks) [(89, i64 0), (88, i64 (m.call[s][k]).length), (87, lst 2 (m.call[s][k])), (77, i64 (k : Nat)), (49, i64 (s : Nat)), (48, i64 m.accept.length), (5, i64 (k : Nat)), (4, i64 (s : Nat)), (3, .ptr 0 0 0 0), (1, ChP m)] [.row 1 [i64 m.accept.length] 0] =
      if okPus m.accept.length m.stack (m.call[s][k]) = true then rE fns fa_impl_ValidChoices 0 ks [(77, i64 (k : Nat)), (49, i64 (s : Nat)), (48, i64 m.accept.length), (5, i64 (k : Nat)), (4, i64 (s : Nat)), (3, .ptr 0 0 0 0), (1, ChP m)] [.row 1 [i64 m.accept.length] 0] else some (bol false, []) := by
  have hl := (szc hz).2.1 _ (List.getElem_mem hs) _ (List.getElem_mem hk)
  have w1 := wrap_i64 (n := (m.accept.length : Int) - 1) (by omega)
  have w3 := wrap_i64 (n := m.stack - 1) (by omega)
  have key := loop_below (F := fun i => rE fns fa_impl_ValidChoices 0 (.code lo_impl_ValidChoices_0 :: .inBlock 4 :: ks) [(89, i64 (i : Nat)), (88, i64 (m.call[s][k]).length), (87, lst 2 (m.call[s][k])), (77, i64 (k : Nat)), (49, i64 (s : Nat)), (48, i64 m.accept.length), (5, i64 (k : Nat)), (4, i64 (s : Nat)), (3, .ptr 0 0 0 0), (1, ChP m)] [.row 1 [i64 m.accept.length] 0])
    (n := (m.call[s][k]).length) (p := puAt m.accept.length m.stack (m.call[s][k])) (e := rE fns fa_impl_ValidChoices 0 ks [(77, i64 (k : Nat)), (49, i64 (s : Nat)), (48, i64 m.accept.length), (5, i64 (k : Nat)), (4, i64 (s : Nat)), (3, .ptr 0 0 0 0), (1, ChP m)] [.row 1 [i64 m.accept.length] 0]) (r := some (bol false, [])) (fun i hi => by
      have hw := wrap_i64 (n := i + 1) (by omega)
      rw [l_impl_ValidChoices_0]
      unfold puAt
      rw [getD_at' hi]
      cases c1 : inR (m.call[s][k][i]).to 0 (m.accept.length - 1)
      · refine ⟨fun h => by simp at h, fun _ => ?_⟩
        simp [lb_impl_ValidChoices_0, hi, w1, w3, c1, nvRow, PV.bels, setCells]
        done
      cases c2 : inR (m.call[s][k][i]).put 0 (m.stack - 1)
      · refine ⟨fun h => by simp at h, fun _ => ?_⟩
        simp [lb_impl_ValidChoices_0, hi, w1, w3, c1, c2, nvRow, PV.bels, setCells]
        done
      cases i with
      | zero =>
        refine ⟨fun _ => ?_, fun h => by simp at h⟩
        simp [lb_impl_ValidChoices_0, hi, w1, w3, c1, c2, show IntKind.i64.wrap 1 = 1 by decide, nvRow, PV.bels, setCells]
        done
      | succ j =>
        have hj : j < (m.call[s][k]).length := by omega
        have e0 : (0 : Int) ≤ (j : Int) + 1 := by omega
        have e1 : ((j + 1 : Nat) : Int) - 1 = j := by omega
        have e2 : (0 : Int) < (j : Int) + 1 := by omega
        have e3 : ((j : Int) + 1) - 1 = j := by omega
        have e5 : ((j : Int) + 1).toNat = j + 1 := by omega
        have w2 := wrap_i64 (n := j) (by omega)
        have hlt : (j : Int) + 1 < (m.call[s][k]).length := by omega
        have hcp := ev_comparePushes (m.call[s][k][j]) (m.call[s][k][j + 1])
        rw [show j + 1 - 1 = j by omega, getD_at' hj, cmpP_lt]
        simp only [Int.natCast_add, Int.cast_ofNat_Int] at hw
        simp at hcp
        by_cases d1 : 0 ≤ cmpP (m.call[s][k][j]) (m.call[s][k][j + 1])
        · refine ⟨fun h => by simp [d1] at h, fun _ => ?_⟩
          simp [lb_impl_ValidChoices_0, hs, hk, hi, hj, hlt, w1, w2, w3, c1, c2, hcp, d1, e0, e1, e2, e3, e5, hw, nvRow, PV.bels, setCells]
          done
        · refine ⟨fun _ => ?_, fun h => by simp [d1] at h⟩
          simp [lb_impl_ValidChoices_0, hs, hk, hi, hj, hlt, w1, w2, w3, c1, c2, hcp, d1, e0, e1, e2, e3, e5, hw, nvRow, PV.bels, setCells]
          done)
    (by
      rw [l_impl_ValidChoices_0]
      simp [lb_impl_ValidChoices_0])
  simpa [okPus] using key
set_option maxHeartbeats 8000000 in
theorem lo_VCh_1 {m : GChoices} (hz : Siz.size m ≤ 1048576) (hn : m.accept.length ≤ 5) (hst : 0 ≤ m.stack ∧ m.stack ≤ 4) (s : Nat) (hs : s < m.ret.length) (hsc : s < m.call.length) (hsi : s < m.inner.length) (hr2 : (m.ret[s]).length = 2) (hc2 : (m.call[s]).length = 2) (hi2 : (m.inner[s]).length = 2) (ks : List KI) :
    rE fns fa_impl_ValidChoices 0 (.code lo_impl_ValidChoices_1 :: .inBlock 2 :: ks) [(77, i64 0), (49, i64 (s : Nat)), (48, i64 m.accept.length), (4, i64 (s : Nat)), (3, .ptr 0 0 0 0), (1, ChP m)] [.row 1 [i64 m.accept.length] 0] =
      if (List.range 2).all (fun k => chK m.accept.length m.stack (m.call[s].getD k []) (m.ret[s].getD k []) (m.inner[s].getD k [])) = true then rE fns fa_impl_ValidChoices 0 ks [(49, i64 (s : Nat)), (48, i64 m.accept.length), (3, .ptr 0 0 0 0), (1, ChP m)] [.row 1 [i64 m.accept.length] 0] else some (bol false, []) := by
  have sz := szc hz
  have key := loop_below (F := fun k => rE fns fa_impl_ValidChoices 0 (.code lo_impl_ValidChoices_1 :: .inBlock 2 :: ks) [(77, i64 (k : Nat)), (49, i64 (s : Nat)), (48, i64 m.accept.length), (4, i64 (s : Nat)), (3, .ptr 0 0 0 0), (1, ChP m)] [.row 1 [i64 m.accept.length] 0])
    (n := 2) (p := fun k => chK m.accept.length m.stack (m.call[s].getD k []) (m.ret[s].getD k []) (m.inner[s].getD k [])) (e := rE fns fa_impl_ValidChoices 0 ks [(49, i64 (s : Nat)), (48, i64 m.accept.length), (3, .ptr 0 0 0 0), (1, ChP m)] [.row 1 [i64 m.accept.length] 0]) (r := some (bol false, [])) (fun k hk => by
      have hkr : k < (m.ret[s]).length := by omega
      have hkc : k < (m.call[s]).length := by omega
      have hki : k < (m.inner[s]).length := by omega
      have lo := fun ks => lo_VCh_0 hz hn hst s k hsc hkc ks
      have h2 := ev_impl_isRising m.accept.length (by omega) (m.inner[s][k]) (sz.2.2.2 _ (List.getElem_mem hsi) _ (List.getElem_mem hki))
      have h3 := ev_szL (m.ret[s][k])
      have hrk := sz.2.2.1 _ (List.getElem_mem hs) _ (List.getElem_mem hkr)
      have h4 := ev_ContainsFunc_Int64S (m.ret[s][k]) i_impl_ValidChoices_1 [.fptr [i64 m.accept.length] 0] (by simp) (fun l => !okRis m.accept.length l) (by omega) (fun x hx => by
        have v := ev_VCh_1 m.accept.length (by omega) x (hrk.2 x hx)
        simp at v
        simp [v])
      simp [any_not_all] at h4
      have hw := wrap_i64 (n := k + 1) (by omega)
      have w2 := wrap_i64 (n := m.stack + 1) (by omega)
      have hk2 : (k : Int) < 2 := by omega
      rw [l_impl_ValidChoices_1, getD_at' hkr, getD_at' hkc, getD_at' hki]
      unfold chK
      simp at h2 h3
      cases c1 : okPus m.accept.length m.stack (m.call[s][k])
      · rw [c1] at lo
        simp at lo
        refine ⟨fun h => by simp at h, fun _ => ?_⟩
        simp [lb_impl_ValidChoices_1, hk, hk2, hs, hsc, hsi, hkr, hkc, hki, hr2, hc2, hi2, lo, w2, nvRow, PV.bels]
        done
      rw [c1] at lo
      simp at lo
      cases c2 : okRis m.accept.length (m.inner[s][k])
      · rw [c2] at h2
        refine ⟨fun h => by simp at h, fun _ => ?_⟩
        simp [lb_impl_ValidChoices_1, hk, hk2, hs, hsc, hsi, hkr, hkc, hki, hr2, hc2, hi2, lo, h2, w2, nvRow, PV.bels, dfr, mapO]
        done
      rw [c2] at h2
      by_cases c3 : ((m.ret[s][k]).length : Int) = m.stack + 1
      · cases c4 : (m.ret[s][k]).all (okRis m.accept.length)
        · rw [c4] at h4
          refine ⟨fun h => by simp at h, fun _ => ?_⟩
          simp [lb_impl_ValidChoices_1, hk, hk2, hs, hsc, hsi, hkr, hkc, hki, hr2, hc2, hi2, lo, h2, h3, h4, w2, c3, nvRow, PV.bels, dfr, mapO]
          done
        · rw [c4] at h4
          refine ⟨fun _ => ?_, fun h => by simp [c3] at h⟩
          simp [lb_impl_ValidChoices_1, hk, hk2, hs, hsc, hsi, hkr, hkc, hki, hr2, hc2, hi2, lo, h2, h3, h4, w2, c3, hw, nvRow, PV.bels, dfr, mapO]
          done
      · refine ⟨fun h => by simp [c3] at h, fun _ => ?_⟩
        simp [lb_impl_ValidChoices_1, hk, hk2, hs, hsc, hsi, hkr, hkc, hki, hr2, hc2, hi2, lo, h2, h3, w2, c3, nvRow, PV.bels, dfr, mapO]
        done)
    (by
      rw [l_impl_ValidChoices_1]
      simp [lb_impl_ValidChoices_1])
  simpa using key
set_option maxHeartbeats 8000000 in
theorem ev_impl_ValidChoices (m : GChoices) (hz : Siz.size m ≤ 1048576) : ev fns i_impl_ValidChoices [m.v] [] = some (bol (okCh m), []) := by
  have sz := szc hz
  have z1 := ev_szB m.accept
  have z2 := ev_szC m.call
  have z3 := ev_szR m.ret
  have z4 := ev_szI m.inner
  refine go_impl_ValidChoices (by simp) ?_
  unfold okCh
  simp at z1 z2 z3 z4
  cases c1 : inR m.accept.length 1 5
  · simp [ac_impl_ValidChoices, z1, c1]
    done
  have c1' := c1
  cases c2 : inR m.stack 1 4
  · simp [ac_impl_ValidChoices, z1, c1, c2]
    done
  have c2' := c2
  simp only [inR, Bool.and_eq_true, decide_eq_true_eq] at c1' c2'
  have h3 := ev_impl_isRising m.accept.length (by omega) m.starts sz.1
  simp at h3
  cases c3 : okRis m.accept.length m.starts
  · rw [c3] at h3
    simp [ac_impl_ValidChoices, z1, c1, c2, h3]
    done
  rw [c3] at h3
  by_cases c4 : m.call.length = m.accept.length
  · by_cases c5 : m.ret.length = m.accept.length
    · by_cases c6 : m.inner.length = m.accept.length
      · have lo := fun ks => loop_below (F := fun s => rE fns fa_impl_ValidChoices 0 (.code lo_impl_ValidChoices_2 :: .inBlock 0 :: ks) [(49, i64 (s : Nat)), (48, i64 m.accept.length), (3, .ptr 0 0 0 0), (1, ChP m)] [.row 1 [i64 m.accept.length] 0])
          (n := m.accept.length) (p := chS m) (e := rE fns fa_impl_ValidChoices 0 ks [] [.row 1 [i64 m.accept.length] 0]) (r := some (bol false, [])) (fun s hs => by
            have hsr : s < m.ret.length := by omega
            have hsc : s < m.call.length := by omega
            have hsi : s < m.inner.length := by omega
            have hw := wrap_i64 (n := s + 1) (by omega)
            rw [l_impl_ValidChoices_2]
            unfold chS chRow
            rw [getD_at' hsr, getD_at' hsc, getD_at' hsi]
            by_cases d1 : (m.call[s]).length = 2
            · by_cases d2 : (m.ret[s]).length = 2
              · by_cases d3 : (m.inner[s]).length = 2
                · have l1 := fun ks => lo_VCh_1 hz (by omega) (by omega) s hsr hsc hsi d2 d1 d3 ks
                  cases d4 : (List.range 2).all (fun k => chK m.accept.length m.stack (m.call[s].getD k []) (m.ret[s].getD k []) (m.inner[s].getD k []))
                  · rw [d4] at l1
                    simp at l1
                    refine ⟨fun h => by simp at h, fun _ => ?_⟩
                    simp [lb_impl_ValidChoices_2, hs, hsr, hsc, hsi, c4, c5, c6, d1, d2, d3, l1, nvRow, PV.bels]
                    done
                  · rw [d4] at l1
                    simp at l1
                    refine ⟨fun _ => ?_, fun h => by simp [d1, d2, d3] at h⟩
                    simp [lb_impl_ValidChoices_2, hs, hsr, hsc, hsi, c4, c5, c6, d1, d2, d3, l1, hw, nvRow, PV.bels]
                    done
                · refine ⟨fun h => by simp [d3] at h, fun _ => ?_⟩
                  simp [lb_impl_ValidChoices_2, hs, hsr, hsc, hsi, c4, c5, c6, d1, d2, show ¬ (((m.inner[s]).length : Int) = 2) by omega, nvRow, PV.bels]
                  done
              · refine ⟨fun h => by simp [d2] at h, fun _ => ?_⟩
                simp [lb_impl_ValidChoices_2, hs, hsr, hsc, hsi, c4, c5, c6, d1, show ¬ (((m.ret[s]).length : Int) = 2) by omega, nvRow, PV.bels]
                done
            · refine ⟨fun h => by simp [d1] at h, fun _ => ?_⟩
              simp [lb_impl_ValidChoices_2, hs, hsr, hsc, hsi, c4, c5, c6, show ¬ (((m.call[s]).length : Int) = 2) by omega, nvRow, PV.bels]
              done)
          (by
            rw [l_impl_ValidChoices_2]
            simp [lb_impl_ValidChoices_2])
        cases c7 : (List.range m.accept.length).all (chS m)
        · rw [c7] at lo
          simp at lo
          simp [ac_impl_ValidChoices, z1, z2, z3, z4, c1, c2, h3, c4, c5, c6, lo, nvRow, PV.bels]
          done
        · rw [c7] at lo
          simp at lo
          simp [ac_impl_ValidChoices, z1, z2, z3, z4, c1, c2, h3, c4, c5, c6, lo, nvRow, PV.bels]
          done
      · simp [ac_impl_ValidChoices, z1, z2, z3, z4, c1, c2, h3, c4, c5, c6, show ¬ ((m.inner.length : Int) = m.accept.length) by omega]
        done
    · simp [ac_impl_ValidChoices, z1, z2, z3, c1, c2, h3, c4, c5, show ¬ ((m.ret.length : Int) = m.accept.length) by omega]
      done
  · simp [ac_impl_ValidChoices, z1, z2, c1, c2, h3, c4, show ¬ ((m.call.length : Int) = m.accept.length) by omega]
    done
end Go.Proofs.Ytlolldjkahkbfaa
