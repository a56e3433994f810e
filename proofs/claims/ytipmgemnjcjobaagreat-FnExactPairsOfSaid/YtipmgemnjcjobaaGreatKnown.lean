/- What is known of words: the program's run. -/
import Derived.Test.YtipmgemnjcjobaaGreatViews
set_option linter.unusedVariables false
set_option linter.unusedSimpArgs false
set_option maxRecDepth 100000
namespace Go.Proofs.YtipmgemnjcjobaaGreat
open Aw
instance : Enc (Vw × Nat) := ⟨fun q => .agg [u64 (q.1.p 0), u64 (q.1.p 1), u64 (q.1.p 2), u64 (q.1.p 3), u64 (q.1.p 4), u64 q.1.e, i64 q.2], 7, fun _ => rfl, fun _ => rfl⟩
instance : Enc Vw := ⟨fun v => .agg [i64 (v.p 0), i64 (v.p 1), i64 (v.p 2), i64 (v.p 3), i64 (v.p 4), i64 v.e], 6, fun _ => rfl, fun _ => rfl⟩
theorem pv_open (q : Vw × Nat) : Enc.pv q = .agg [u64 (q.1.p 0), u64 (q.1.p 1), u64 (q.1.p 2), u64 (q.1.p 3), u64 (q.1.p 4), u64 q.1.e, i64 q.2] := rfl
theorem pv_view (v : Vw) : Enc.pv v = .agg [i64 (v.p 0), i64 (v.p 1), i64 (v.p 2), i64 (v.p 3), i64 (v.p 4), i64 v.e] := rfl
@[simp] theorem sz_open : Enc.sz (Vw × Nat) = 7 := rfl
@[simp] theorem sz_view : Enc.sz Vw = 6 := rfl
theorem ev_kindOfK (ch : Int) (h : 0 ≤ ch ∧ ch < 256) : ev fns i_impl_kindOf [u8 ch] [] = some (i64 ((symIx ch).tmod 2), []) := by
  refine go_impl_kindOf (by simp) ?_
  have hf := firstIdx_sym h
  have hv := ev_strings_IndexByte ⟨#[40, 91, 41, 93, 97, 98]⟩ ch
  rw [hf] at hv
  simp at hv
  simp [ac_impl_kindOf, hv, hf]
def symK (w : ByteArray) : Prop := ∀ ch ∈ wl w, 0 ≤ symIx ch
theorem okWord_symK {w : ByteArray} (h : okWord w = true) : symK w := by
  unfold okWord at h
  simp only [Bool.and_eq_true, List.all_eq_true, decide_eq_true_eq] at h
  exact h.1
theorem okWord_leK {w : ByteArray} (h : okWord w = true) : w.size ≤ 60 := by
  unfold okWord at h
  simp only [Bool.and_eq_true, decide_eq_true_eq] at h
  exact h.2
@[simp] abbrev zero6 : PV := .agg [u64 0, u64 0, u64 0, u64 0, u64 0, u64 0]
set_option maxHeartbeats 16000000 in
theorem lo_known {m : GChoices} (hok : okCh m = true) (hz : Siz.size m ≤ 1048576) (w : ByteArray) (hw : symK w) (hL : w.size ≤ 1000) (ks : List KI) :
    rE fns fa_impl_Choices_known 0 (.code lo_impl_Choices_known_0 :: .inBlock 0 :: ks) [(15, i64 0), (14, i64 w.size), (6, .own 2 0 0 0), (5, .ptr 1 0 0 0), (4, .ptr 0 0 0 0), (2, ChP m), (1, str w)] [.row 6 [zero6] 0, .row 6 [(startV m).u] 0, .row 7 [] 0] =
      rE fns fa_impl_Choices_known 0 ks [(5, .ptr 1 0 0 0), (4, .ptr 0 0 0 0)] [.row 6 [zero6] 0, .row 6 [(knK m w).u] 0, .row 7 ((goK m (startV m, []) (wl w)).2.map Enc.pv) 0] := by
  have lo := loop_fold (F := fun k (s : KSt) => rE fns fa_impl_Choices_known 0 (.code lo_impl_Choices_known_0 :: .inBlock 0 :: ks) [(15, i64 (k : Nat)), (14, i64 w.size), (6, .own 2 0 0 s.2.length), (5, .ptr 1 0 0 0), (4, .ptr 0 0 0 0), (2, ChP m), (1, str w)] [.row 6 [zero6] 0, .row 6 [s.1.u] 0, .row 7 (s.2.map Enc.pv) 0]) (ls := wl w) (f := stepK m) (fun k s => okK m k s)
    (fun k s hk hI => by
      have hc := hw _ (List.getElem_mem hk)
      refine ⟨?_, stepK_ok hok hI _⟩
      have hk' : k < w.size := by simpa using hk
      have hwr := wrap_i64 (n := k + 1) (by omega)
      have hb := bt_wl hk'
      have hln := hI.ln
      have hv := hI.v
      have hstk := hI.stk
      obtain ⟨v, stk⟩ := s
      simp only at hln hv hstk
      have b1 : (stk.length + 1) * 56 ≤ 140737488355328 := by omega
      rw [l_impl_Choices_known_0]
      generalize (wl w)[k] = ch at *
      rcases symIx_cases ch with rfl | rfl | rfl | rfl | rfl | rfl | ⟨hh, _⟩
      · have hkd := ev_kindOfK 40 (by decide)
        have hs := ev_Choices_call hok hz hv (k := 0) (by omega)
        simp [symIx, Vw.u] at hkd hs
        simp [lb_impl_Choices_known_0, hk', hwr, hb, hkd, hs, isCallB, isInnB, stepK, symIx, b1, setCells, Vw.u, pv_open, nvRow, PV.bels]
        done
      · have hkd := ev_kindOfK 91 (by decide)
        have hs := ev_Choices_call hok hz hv (k := 1) (by omega)
        simp [symIx, Vw.u] at hkd hs
        simp [lb_impl_Choices_known_0, hk', hwr, hb, hkd, hs, isCallB, isInnB, stepK, symIx, b1, setCells, Vw.u, pv_open, nvRow, PV.bels]
        done
      · have hkd := ev_kindOfK 41 (by decide)
        rcases List.eq_nil_or_concat stk with rfl | ⟨pre, q, rfl⟩
        · have hs := ev_Choices_free hok hz hv (k := 0) (by omega)
          simp [symIx, Vw.u] at hkd hs
          simp [lb_impl_Choices_known_0, hk', hwr, hb, hkd, hs, isCallB, isInnB, stepK, symIx, setCells, Vw.u, pv_open, nvRow, PV.bels]
          done
        · rw [List.concat_eq_append] at *
          have hq := hstk q (by simp)
          have w1 := wrap_i64 (n := pre.length) (by simp at hln; omega)
          have hs := ev_Choices_back hok hz hv (k := 0) (by omega) hq.1 hq.2
          simp [symIx, Vw.u] at hkd hs
          simp [lb_impl_Choices_known_0, hk', hwr, hb, hkd, hs, isCallB, isInnB, stepK, symIx, w1, setCells, Vw.u, pv_open, nvRow, PV.bels]
          done
      · have hkd := ev_kindOfK 93 (by decide)
        rcases List.eq_nil_or_concat stk with rfl | ⟨pre, q, rfl⟩
        · have hs := ev_Choices_free hok hz hv (k := 1) (by omega)
          simp [symIx, Vw.u] at hkd hs
          simp [lb_impl_Choices_known_0, hk', hwr, hb, hkd, hs, isCallB, isInnB, stepK, symIx, setCells, Vw.u, pv_open, nvRow, PV.bels]
          done
        · rw [List.concat_eq_append] at *
          have hq := hstk q (by simp)
          have w1 := wrap_i64 (n := pre.length) (by simp at hln; omega)
          have hs := ev_Choices_back hok hz hv (k := 1) (by omega) hq.1 hq.2
          simp [symIx, Vw.u] at hkd hs
          simp [lb_impl_Choices_known_0, hk', hwr, hb, hkd, hs, isCallB, isInnB, stepK, symIx, w1, setCells, Vw.u, pv_open, nvRow, PV.bels]
          done
      · have hkd := ev_kindOfK 97 (by decide)
        have hs := ev_Choices_inner hok hz hv (k := 0) (by omega)
        simp [symIx, Vw.u] at hkd hs
        simp [lb_impl_Choices_known_0, hk', hwr, hb, hkd, hs, isCallB, isInnB, stepK, symIx, setCells, Vw.u, pv_open, nvRow, PV.bels]
        done
      · have hkd := ev_kindOfK 98 (by decide)
        have hs := ev_Choices_inner hok hz hv (k := 1) (by omega)
        simp [symIx, Vw.u] at hkd hs
        simp [lb_impl_Choices_known_0, hk', hwr, hb, hkd, hs, isCallB, isInnB, stepK, symIx, setCells, Vw.u, pv_open, nvRow, PV.bels]
        done
      · omega)
    (s := (startV m, [])) (okK_start hok)
  simp only [wl_length] at lo
  have h0 := lo.1
  refine Eq.trans ?_ (h0.trans ?_)
  · rfl
  · rw [l_impl_Choices_known_0]
    simp [lb_impl_Choices_known_0, knK, goK]
    done
theorem ev_Choices_known {m : GChoices} (hok : okCh m = true) (hz : Siz.size m ≤ 1048576) (w : ByteArray) (hw : symK w) (hL : w.size ≤ 1000) : ev fns i_impl_Choices_known [m.v, str w] [] = some ((knK m w).u, []) := by
  have lo := lo_known hok hz w hw hL
  have h1 := ev_Choices_start hok hz
  refine go_impl_Choices_known (by simp) ?_
  simp [Vw.u] at lo h1
  simp [ac_impl_Choices_known, lo, h1, Vw.u, nvRow, PV.bels]
  done
end Go.Proofs.YtipmgemnjcjobaaGreat
