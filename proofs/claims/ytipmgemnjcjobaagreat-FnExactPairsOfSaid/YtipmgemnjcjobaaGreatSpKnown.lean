/- What is known of words: the reference's run; ChoicesTake and StatesAfter. -/
import Derived.Test.YtipmgemnjcjobaaGreatSpViews
set_option linter.unusedVariables false
set_option linter.unusedSimpArgs false
set_option maxRecDepth 100000
namespace Go.Proofs.YtipmgemnjcjobaaGreat
open Aw
def stA (s : List (Vw × Nat)) : List Vw := s.map (·.1)
def stB (s : List (Vw × Nat)) : List Int := s.map fun q => (q.2 : Int)
@[simp] theorem stA_len (s : List (Vw × Nat)) : (stA s).length = s.length := by simp [stA]
@[simp] theorem stB_len (s : List (Vw × Nat)) : (stB s).length = s.length := by simp [stB]
@[simp] theorem stA_nil : stA [] = [] := rfl
@[simp] theorem stB_nil : stB [] = [] := rfl
@[simp] theorem stA_app (s : List (Vw × Nat)) (q : Vw × Nat) : stA (s ++ [q]) = stA s ++ [q.1] := by simp [stA]
@[simp] theorem stB_app (s : List (Vw × Nat)) (q : Vw × Nat) : stB (s ++ [q]) = stB s ++ [(q.2 : Int)] := by simp [stB]
set_option maxHeartbeats 16000000 in
theorem lo_spRun {m : GChoices} (hok : okCh m = true) (hz : Siz.size m ≤ 1048576) (w : ByteArray) (hw : symK w) (hL : w.size ≤ 1000) (ks : List KI) :
    rE fns fa_spec_l03Run 0 (.code lo_spec_l03Run_0 :: .inBlock 0 :: ks) [(8, i64 0), (7, .own 3 0 0 0), (6, .own 2 0 0 0), (5, .ptr 1 0 0 0), (4, .ptr 0 0 0 0), (1, str w), (0, ChP m)] [.row 6 [zeroI] 0, .row 6 [(startV m).i] 0, .row 6 [] 0, .row 1 [] 0] =
      rE fns fa_spec_l03Run 0 ks [(5, .ptr 1 0 0 0), (4, .ptr 0 0 0 0)] [.row 6 [zeroI] 0, .row 6 [(knK m w).i] 0, .row 6 ((stA (goK m (startV m, []) (wl w)).2).map Enc.pv) 0, .row 1 ((stB (goK m (startV m, []) (wl w)).2).map Enc.pv) 0] := by
  have lo := loop_fold (F := fun k (s : KSt) => rE fns fa_spec_l03Run 0 (.code lo_spec_l03Run_0 :: .inBlock 0 :: ks) [(8, i64 (k : Nat)), (7, .own 3 0 0 s.2.length), (6, .own 2 0 0 s.2.length), (5, .ptr 1 0 0 0), (4, .ptr 0 0 0 0), (1, str w), (0, ChP m)] [.row 6 [zeroI] 0, .row 6 [s.1.i] 0, .row 6 ((stA s.2).map Enc.pv) 0, .row 1 ((stB s.2).map Enc.pv) 0]) (ls := wl w) (f := stepK m) (fun k s => okK m k s)
    (fun k s hk hI => by
      have hc := hw _ (List.getElem_mem hk)
      refine ⟨?_, stepK_ok hok hI _⟩
      have hk' : k < w.size := by simpa using hk
      have hwr := wrap_i64 (n := k + 1) (by omega)
      have hb := bt_wl hk'
      have hln := hI.ln
      have hv := hI.v
      have hstk := hI.stk
      obtain ⟨v, stk⟩ := s
      simp only at hln hv hstk
      have b1 : (stk.length + 1) * 48 ≤ 140737488355328 := by omega
      have b2 : (stk.length + 1) * 8 ≤ 140737488355328 := by omega
      have w0 := wrap_i64 (n := (stk.length : Int) - 1) (by omega)
      rw [l_spec_l03Run_0]
      generalize (wl w)[k] = ch at *
      rcases symIx_cases ch with rfl | rfl | rfl | rfl | rfl | rfl | ⟨hh, _⟩
      · have hkd := ev_spec_l01Symbol 40
        have hs := ev_spec_l03Called hok hz hv (k := 0) (by omega)
        simp [symIx, Vw.i] at hkd hs
        simp [lb_spec_l03Run_0, hk', hwr, hb, hkd, hs, isCallB, isInnB, stepK, symIx, b1, b2, w0, setCells, Vw.i, pv_view, nvRow, PV.bels]
        done
      · have hkd := ev_spec_l01Symbol 91
        have hs := ev_spec_l03Called hok hz hv (k := 1) (by omega)
        simp [symIx, Vw.i] at hkd hs
        simp [lb_spec_l03Run_0, hk', hwr, hb, hkd, hs, isCallB, isInnB, stepK, symIx, b1, b2, w0, setCells, Vw.i, pv_view, nvRow, PV.bels]
        done
      · have hkd := ev_spec_l01Symbol 41
        rcases List.eq_nil_or_concat stk with rfl | ⟨pre, q, rfl⟩
        · have hs := ev_spec_l03Bottom hok hz hv (k := 0) (by omega)
          simp [symIx, Vw.i] at hkd hs w0
          simp [lb_spec_l03Run_0, hk', hwr, hb, hkd, hs, isCallB, isInnB, stepK, symIx, w0, setCells, Vw.i, pv_view, nvRow, PV.bels, show IntKind.i64.wrap 0 = 0 by decide]
          done
        · rw [List.concat_eq_append] at *
          have hq := hstk q (by simp)
          have w1 := wrap_i64 (n := pre.length) (by simp at hln; omega)
          have wn : ¬ ((pre.length : Int) < 0) := by omega
          have hs := ev_spec_l03Back hok hz hv (k := 0) (by omega) hq.1 hq.2
          simp [symIx, Vw.i] at hkd hs
          simp [lb_spec_l03Run_0, hk', hwr, hb, hkd, hs, isCallB, isInnB, stepK, symIx, w1, wn, setCells, Vw.i, pv_view, nvRow, PV.bels, show IntKind.i64.wrap 0 = 0 by decide]
          done
      · have hkd := ev_spec_l01Symbol 93
        rcases List.eq_nil_or_concat stk with rfl | ⟨pre, q, rfl⟩
        · have hs := ev_spec_l03Bottom hok hz hv (k := 1) (by omega)
          simp [symIx, Vw.i] at hkd hs w0
          simp [lb_spec_l03Run_0, hk', hwr, hb, hkd, hs, isCallB, isInnB, stepK, symIx, w0, wk1, setCells, Vw.i, pv_view, nvRow, PV.bels]
          done
        · rw [List.concat_eq_append] at *
          have hq := hstk q (by simp)
          have w1 := wrap_i64 (n := pre.length) (by simp at hln; omega)
          have wn : ¬ ((pre.length : Int) < 0) := by omega
          have hs := ev_spec_l03Back hok hz hv (k := 1) (by omega) hq.1 hq.2
          simp [symIx, Vw.i] at hkd hs
          simp [lb_spec_l03Run_0, hk', hwr, hb, hkd, hs, isCallB, isInnB, stepK, symIx, w1, wn, wk1, setCells, Vw.i, pv_view, nvRow, PV.bels]
          done
      · have hkd := ev_spec_l01Symbol 97
        have hs := ev_spec_l03Inner hok hz hv (k := 0) (by omega)
        simp [symIx, Vw.i] at hkd hs
        simp [lb_spec_l03Run_0, hk', hwr, hb, hkd, hs, isCallB, isInnB, stepK, symIx, w0, setCells, Vw.i, pv_view, nvRow, PV.bels, show IntKind.i64.wrap 0 = 0 by decide]
        done
      · have hkd := ev_spec_l01Symbol 98
        have hs := ev_spec_l03Inner hok hz hv (k := 1) (by omega)
        simp [symIx, Vw.i] at hkd hs
        simp [lb_spec_l03Run_0, hk', hwr, hb, hkd, hs, isCallB, isInnB, stepK, symIx, w0, wk1, setCells, Vw.i, pv_view, nvRow, PV.bels]
        done
      · omega)
    (s := (startV m, [])) (okK_start hok)
  simp only [wl_length] at lo
  have h0 := lo.1
  refine Eq.trans ?_ (h0.trans ?_)
  · rfl
  · rw [l_spec_l03Run_0]
    simp [lb_spec_l03Run_0, knK, goK]
    done
theorem ev_spec_l03Run {m : GChoices} (hok : okCh m = true) (hz : Siz.size m ≤ 1048576) (w : ByteArray) (hw : symK w) (hL : w.size ≤ 1000) : ev fns i_spec_l03Run [ChP m, str w] [] = some ((knK m w).i, []) := by
  obtain ⟨n1, n5, hst, -⟩ := okCh_n hok
  have lo := lo_spRun hok hz w hw hL
  have h1 := ev_spec_l03Bits m.starts (szc hz).1 (hst.sts n5)
  have h2 := ev_spec_l03Begin m n1 n5 (bitsL m.starts)
  refine go_spec_l03Run (by simp) ?_
  simp [Vw.i, startV] at lo h1 h2
  simp [ac_spec_l03Run, lo, h1, h2, Vw.i, nvRow, PV.bels]
  done
theorem ev_spec_l03Given (m : GChoices) (hz : Siz.size m ≤ 1048576) (w : ByteArray) (hw : w.size ≤ 1048576) : ev fns i_spec_l03Given [ChP m, str w] [] = some (i64 (if okCh m = true ∧ okWord w = true then 0 else 1), []) := by
  refine go_spec_l03Given (by simp) ?_
  have h1 := ev_spec_l03Ok m hz
  have h2 := ev_spec_l01Ok w (by omega)
  simp at h1 h2
  cases c1 : okCh m
  · rw [c1] at h1
    simp [ac_spec_l03Given, h1]
  · rw [c1] at h1
    cases c2 : okWord w
    · rw [c2] at h2
      simp [ac_spec_l03Given, h1, h2]
    · rw [c2] at h2
      simp [ac_spec_l03Given, h1, h2]
/-! ### What both tell -/
theorem accept_any {m : GChoices} (hn : m.accept.length ≤ 5) {b : Nat} (hb : b < 2 ^ m.accept.length) (P : Nat → Bool) : (stN b).any (fun s => P s.toNat) = (List.range m.accept.length).any fun s => P s && decide (b / 2 ^ s % 2 = 1) := by
  have key : ∀ d k, (stF b k d).any (fun s => P s.toNat) = (List.range' k d).any fun s => P s && decide (b / 2 ^ s % 2 = 1) := by
    intro d
    induction d with
    | zero => intro k; rfl
    | succ d ih =>
      intro k
      rw [List.range'_succ, List.any_cons]
      unfold stF
      split
      · rename_i h0
        have hz : ∀ s, k ≤ s → b / 2 ^ s % 2 = 0 := by
          intro s hs
          have : b / 2 ^ s = 0 := by
            have h1 : b < 2 ^ k := by
              rcases Nat.lt_or_ge b (2 ^ k) with h | h
              · exact h
              · have := Nat.div_pos h (Nat.pow_pos (n := k) (by omega : 0 < 2)); omega
            exact Nat.div_eq_of_lt (Nat.lt_of_lt_of_le h1 (Nat.pow_le_pow_right (by omega) hs))
          rw [this]
        have e1 : ((List.range' (k + 1) d).any fun s => P s && decide (b / 2 ^ s % 2 = 1)) = false := by
          rw [List.any_eq_false]
          intro s hs
          rw [List.mem_range'_1] at hs
          rw [hz s (by omega)]; simp
        rw [e1, hz k (Nat.le_refl _)]; simp
      · rw [List.any_append, ih (k + 1)]
        congr 1
        split
        · rename_i h1
          simp [h1]
        · rename_i h1
          simp [h1]
  unfold stN
  rw [key 6 0, ← List.range_eq_range']
  have hz : ∀ s, m.accept.length ≤ s → b / 2 ^ s % 2 = 0 := by
    intro s hs
    rw [Nat.div_eq_of_lt (Nat.lt_of_lt_of_le hb (Nat.pow_le_pow_right (by omega) hs))]
  rw [Bool.eq_iff_iff]
  simp only [List.any_eq_true, List.mem_range, Bool.and_eq_true, decide_eq_true_eq]
  constructor
  · rintro ⟨s, h1, h2, h3⟩
    refine ⟨s, ?_, h2, h3⟩
    rcases Nat.lt_or_ge s m.accept.length with h | h
    · exact h
    · rw [hz s h] at h3; omega
  · rintro ⟨s, h1, h2, h3⟩
    refine ⟨s, ?_, h2, h3⟩
    omega
def takK (m : GChoices) (v : Vw) : Bool := (stN v.e).any fun s => m.accept.getD s.toNat false
end Go.Proofs.YtipmgemnjcjobaaGreat
