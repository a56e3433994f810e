/- Rewriters' runs: the program's Rewrite. -/
import Derived.Test.YtjfpmpbdbpgofaaRwRun
set_option linter.unusedVariables false
set_option linter.unusedSimpArgs false
set_option maxRecDepth 100000
namespace Go.Proofs.Ytjfpmpbdbpgofaa
open Aw
theorem stepR_out (r : GRewriter) (s : RSt) (ch : Int) : s.2.2.size ≤ (stepR r s ch).2.2.size := by
  unfold stepR
  simp only
  split
  · simp only [ByteArray.size_append]; omega
  · split
    · simp only [ByteArray.size_append]; omega
    · split <;> simp only [ByteArray.size_append] <;> omega
def goF (r : GRewriter) (s : RSt) (w : ByteArray) : RSt := (wl w).foldl (stepR r) s
def symWR (w : ByteArray) : Prop := ∀ ch ∈ wl w, 0 ≤ symIx ch
theorem okWord_symR {w : ByteArray} (h : okWord w = true) : symWR w := by
  unfold okWord at h
  simp only [Bool.and_eq_true, List.all_eq_true, decide_eq_true_eq] at h
  exact h.1
theorem okWord_leR {w : ByteArray} (h : okWord w = true) : w.size ≤ 60 := by
  unfold okWord at h
  simp only [Bool.and_eq_true, decide_eq_true_eq] at h
  exact h.2
theorem RwI.start {r : GRewriter} (hok : okRw r = true) : RwI r 0 (r.start, [], ⟨#[]⟩) := ⟨(okRw_len hok).2.2.1, by simp, by simp, Nat.le_refl 0⟩
theorem lo_rw (r : GRewriter) (hok : okRw r = true) (w : ByteArray) (hw : symWR w) (hL : w.size ≤ 100000) (q : Int) (stk : List Int) (B : Nat) (hB : B ≤ 1000) (h0 : RwI r B (q, stk, ⟨#[]⟩)) (ks : List KI) :
    rE fns fa_impl_Rewriter_rewrite 0 (.code lo_impl_Rewriter_rewrite_0 :: .inBlock 0 :: ks) (RFr r w 0 (q, stk, ⟨#[]⟩)) (RB0 stk (.val (.pointer none))) =
      rE fns fa_impl_Rewriter_rewrite 0 ks [(11, .ptr 1 307000000 0 0), (2, .own 0 0 0 (goF r (q, stk, ⟨#[]⟩) w).2.1.length), (1, i64 (goF r (q, stk, ⟨#[]⟩) w).1)] (Sg w.size (goF r (q, stk, ⟨#[]⟩) w).2.1 (goF r (q, stk, ⟨#[]⟩) w).2.2) ∧ RwI r (B + w.size) (goF r (q, stk, ⟨#[]⟩) w) := by
  have e0 : Sg 0 stk ⟨#[]⟩ = RB0 stk (.val (.pointer none)) := by
    unfold Sg
    rw [if_neg (by decide)]
    rfl
  rw [← e0]
  have lo := loop_fold (F := fun k s => rE fns fa_impl_Rewriter_rewrite 0 (.code lo_impl_Rewriter_rewrite_0 :: .inBlock 0 :: ks) (RFr r w k s) (Sg k s.2.1 s.2.2)) (ls := wl w) (f := stepR r) (fun k s => RwI r (B + k) s)
    (fun k s hk hI => by
      have hc := hw _ (List.getElem_mem hk)
      refine ⟨?_, stepR_ok hok hI hc⟩
      have hk' : k < w.size := by simpa using hk
      have hb := bt_wl hk'
      have hg := stepR_out r s (wl w)[k]
      by_cases ho : 0 < s.2.2.size
      · have hs := stepD1 r hok w k hk' hL s B hB hI ho (wl w)[k] hb hc ks
        unfold Sg
        rw [if_pos ho, if_pos (by omega)]
        exact hs
      · have hs := stepD0 (decide (0 < k)) r hok w k hk' hL s B hB hI (ba_nil ho) (wl w)[k] hb hc ks
        unfold Sg
        rw [if_neg ho]
        refine hs.trans ?_
        have e : decide (0 < k + 1) = true := by simp
        rw [e, if_pos rfl])
    (s := (q, stk, ⟨#[]⟩)) h0
  simp only [wl_length] at lo
  refine ⟨Eq.trans ?_ (lo.1.trans ?_), lo.2⟩
  · rfl
  · rw [l_impl_Rewriter_rewrite_0]
    unfold Sg goF
    split
    · simp [lb_impl_Rewriter_rewrite_0, nvRow, PV.bels]
      done
    · split
      · simp [lb_impl_Rewriter_rewrite_0, nvRow, PV.bels]
        done
      · simp [lb_impl_Rewriter_rewrite_0, nvRow, PV.bels]
        done
theorem numsOf_list : ∀ l : List UInt8, numsOf (l.map Enc.pv) = some (l.map fun b => (b.toNat : Int))
  | [] => rfl
  | b :: l => by
    show (numsOf (l.map Enc.pv)).map _ = _
    rw [numsOf_list l]; rfl
theorem numsOf_bytes (s : ByteArray) : numsOf (s.data.toList.map Enc.pv) = some (s.data.toList.map fun b => (b.toNat : Int)) := numsOf_list _
theorem bytes_ok (s : ByteArray) : ((s.data.toList.map fun b => (b.toNat : Int)).all fun x => decide (0 ≤ x) && decide (x < 256)) = true := by
  rw [List.all_eq_true]
  intro x hx
  obtain ⟨b, _, rfl⟩ := List.mem_map.1 hx
  have := b.toNat_lt
  simp; omega
theorem strOf_bytes (s : ByteArray) : strOfNums (s.data.toList.map fun b => (b.toNat : Int)) = s := by
  unfold strOfNums
  rw [List.map_map]
  have : ((fun n : Int => UInt8.ofNat n.toNat) ∘ fun b : UInt8 => (b.toNat : Int)) = id := by funext b; simp
  rw [this]; simp
theorem stringR1 (st : List Int) (b : ByteArray) (h : 0 < b.size) (hz : b.size ≤ 140737488355328) : ev fns i_P_strings_Builder_String [.ptr 1 307000000 0 0] (RB1 st [] b 6000000) = some (str b, [.row 1 (st.map Enc.pv) 0, .row 2 [.agg [.ptr 1 307000000 0 0, .own 3 6000000 0 b.size]] 307000000, .row 2 [] 0, .row 1 [] 6000001]) := by
  refine go_P_strings_Builder_String (by simp) ?_
  have h1 := numsOf_bytes b
  have h2 := bytes_ok b
  have h3 := strOf_bytes b
  simp [ac_P_strings_Builder_String, h, h1, h2, h3, show (b.size : Int) ≤ 4611686018427387904 by omega]
  done
theorem ba_emp : ByteArray.empty = ⟨#[]⟩ := rfl
theorem stringR0 (kk : Bool) (st : List Int) : ev fns i_P_strings_Builder_String [.ptr 1 307000000 0 0] (RB0 st (if kk = true then .ptr 1 307000000 0 0 else .val (.pointer none))) = some (str ⟨#[]⟩, RB0 st (if kk = true then .ptr 1 307000000 0 0 else .val (.pointer none))) := by
  refine go_P_strings_Builder_String (by simp) ?_
  cases kk
  · simp [ac_P_strings_Builder_String, ba_emp]
    done
  · simp [ac_P_strings_Builder_String, ba_emp]
    done
theorem ev_CloneNil : ev fns i_slices_Clone_L_int64 [.val (.slice none 0 0)] [] = some (.own 0 0 0 0, [.row 1 [] 0]) := by
  rw [sp_slices_Clone_L_int64]
  simp [spClone]
theorem ev_CloneL (l : List Int) (hl : l.length ≤ 1048576) : ev fns i_slices_Clone_L_int64 [lst 1 l] [] = some (.own 0 0 0 l.length, [.row 1 (l.map Enc.pv) 0]) := by
  rw [sp_slices_Clone_L_int64]
  have b : l.length * 8 ≤ 140737488355328 := by omega
  simp [spClone, b]
theorem ev_rewrite (r : GRewriter) (hok : okRw r = true) (w : ByteArray) (hw : symWR w) (hL : w.size ≤ 100000) (q : Int) (stk : List Int) (B : Nat) (hB : B ≤ 1000) (h0 : RwI r B (q, stk, ⟨#[]⟩))
    (P : PV) (hP : P.bel 0 = true) (hc : ev fns i_slices_Clone_L_int64 [P] [] = some (.own 0 0 0 stk.length, [.row 1 (stk.map Enc.pv) 0])) :
    ev fns i_impl_Rewriter_rewrite [r.v, i64 q, P, str w] [] = some (.tup [i64 (goF r (q, stk, ⟨#[]⟩) w).1, .own 0 0 0 (goF r (q, stk, ⟨#[]⟩) w).2.1.length, str (goF r (q, stk, ⟨#[]⟩) w).2.2], [.row 1 ((goF r (q, stk, ⟨#[]⟩) w).2.1.map Enc.pv) 0]) := by
  refine go_impl_Rewriter_rewrite (by simp [PV.bels, hP]) ?_
  have lo := fun ks => (lo_rw r hok w hw hL q stk B hB h0 ks).1
  have hI := (lo_rw r hok w hw hL q stk B hB h0 []).2
  have hln := hI.ln
  have hsz := hI.sz
  obtain ⟨G, hG⟩ : ∃ G, G = goF r (q, stk, ⟨#[]⟩) w := ⟨_, rfl⟩
  rw [← hG] at hln hsz ⊢
  simp only [← hG] at lo
  obtain ⟨q2, st, out⟩ := G
  simp only at hln hsz
  by_cases ho : 0 < out.size
  · have hs := stringR1 st out ho (by omega)
    simp [Sg, ho] at lo
    simp at hs hc
    simp [ac_impl_Rewriter_rewrite, hc, lo, hs, nvRow, PV.bels, dfr, mapO, hP, show st.length ≤ 140737488355328 by omega]
    done
  · have he := ba_nil ho
    subst he
    obtain ⟨kk, hkk⟩ : ∃ kk, kk = decide (0 < w.size) := ⟨_, rfl⟩
    have hS : Sg w.size st ⟨#[]⟩ = RB0 st (if kk = true then .ptr 1 307000000 0 0 else .val (.pointer none)) := by
      unfold Sg
      rw [if_neg (by decide), hkk]
    have hs := stringR0 kk st
    simp only [hS] at lo
    have b3 : st.length ≤ 140737488355328 := by omega
    clear hkk hS hsz ho hG
    cases kk
    · simp at hs hc lo
      simp [ac_impl_Rewriter_rewrite, hc, lo, hs, nvRow, PV.bels, dfr, mapO, hP, b3]
      done
    · simp at hs hc lo
      simp [ac_impl_Rewriter_rewrite, hc, lo, hs, nvRow, PV.bels, dfr, mapO, hP, b3]
      done
end Go.Proofs.Ytjfpmpbdbpgofaa
