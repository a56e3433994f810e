/- Programs that run: the program's run, and both laws' contracts. -/
import Derived.Test.YtegjfjckijmgcaaProgRun
set_option linter.unusedVariables false
set_option linter.unusedSimpArgs false
set_option maxRecDepth 100000

namespace Go.Proofs.Ytegjfjckijmgcaa
open Aw
theorem chs_len {p : GProgram} (hp : okProgram p = true) {k : Nat} {x : GPlace} (hx : PlI p k x) : (chs p x).length ≤ 13 := by
  rw [chs_eq]
  have h1 := List.length_filter_le (fun (k : Nat) => decide ((lk p x.module (k : Int)).frm = x.node)) (List.range (md p x.module).links.length)
  obtain ⟨m, hm⟩ := Int.eq_ofNat_of_zero_le hx.md.1
  have h2 := (okM_facts (okP_md hp (m := m) (by have := hx.md.2; omega))).2.1
  rw [← hm] at h2
  simp at h1
  split <;> simp <;> omega
@[simp] abbrev zPl : PV := .agg [i64 0, i64 0, .val (.slice none 0 0)]
set_option maxHeartbeats 8000000 in
theorem ro_run {p : GProgram} (hp : okProgram p = true) (cs : List Int) (hcs : cs.length ≤ 200) (ks : List KI) (k : Nat) (s : ByteArray × GPlace) (q : PV) (hq : PV.ty (.lst 1 (.lst 1 .any)) q = lst 1 s.2.opn) (h : k < cs.length) (hi : RnI p k s) :
    (∀ s', runF p s cs[k] = .inl s' → rE fns fa_impl_Program_run 0 (.code lo_impl_Program_run_0 :: .inBlock 1 :: ks) [(26, i64 (k : Nat)), (25, i64 cs.length), (24, lst 1 cs), (8, .ptr 1 0 0 0), (7, str s.1), (5, .ptr 0 0 0 0), (2, .fptr [lst 2 p.modules] 0)] [.row 3 [zPl] 0, .row 3 [plQ s.2 q] 0] =
        rE fns fa_impl_Program_run 0 (.code lo_impl_Program_run_0 :: .inBlock 1 :: ks) [(26, i64 ((k + 1 : Nat) : Int)), (25, i64 cs.length), (24, lst 1 cs), (8, .ptr 1 0 0 0), (7, str s'.1), (5, .ptr 0 0 0 0), (2, .fptr [lst 2 p.modules] 0)] [.row 3 [zPl] 0, .row 3 [s'.2.v] 0]) ∧
    (∀ x, runF p s cs[k] = .inr x → rE fns fa_impl_Program_run 0 (.code lo_impl_Program_run_0 :: .inBlock 1 :: ks) [(26, i64 (k : Nat)), (25, i64 cs.length), (24, lst 1 cs), (8, .ptr 1 0 0 0), (7, str s.1), (5, .ptr 0 0 0 0), (2, .fptr [lst 2 p.modules] 0)] [.row 3 [zPl] 0, .row 3 [plQ s.2 q] 0] =
        some (.tup [str ⟨#[]⟩, (⟨0, 0, []⟩ : GPlace).v, i64 4], [])) := by
  obtain ⟨out, x⟩ := s
  have hx := hi.1
  have hsz := hi.2
  simp only at hx hsz hq
  have hqi := ty_lst_inv hq
  have hch := cz_choices hp (by omega) hx hq hqi.2.2.1
  have hlc : (chs p x).length ≤ 9223372036854775806 := by have := chs_len hp hx; omega
  have hco := ev_Contains_Int64 (chs p x) cs[k] hlc
  rw [chs_mem] at hco
  have hw := wrap_i64 (n := k + 1) (by omega)
  unfold runF
  cases hc : canL p x cs[k]
  · rw [hc] at hco
    refine ⟨fun s' h => by simp [hc] at h, fun y h => ?_⟩
    simp [hc] at h
    subst h
    rw [l_impl_Program_run_0]
    simp at hch hco
    simp [lb_impl_Program_run_0, h, hch, hco, setCells]
  · rw [hc] at hco
    refine ⟨fun s' h => ?_, fun y h => by simp [hc] at h⟩
    simp [hc] at h
    subst h
    have h2 := (stp_ok hp hx hc).2
    have hcho := ev_impl_choose hp (by omega) hx hc
    generalize stp p x cs[k] = r at *
    obtain ⟨a, y⟩ := r
    have ho : out.size + a.size ≤ 9223372036854775807 := by simp only at h2; omega
    rw [l_impl_Program_run_0]
    simp at hch hco hcho hq
    simp [lb_impl_Program_run_0, h, hch, hco, hcho, hq, hqi.1, hqi.2.2.1, ho, hw, setCells, nvRow, PV.bels, PV.bel]

theorem ty_place (x : GPlace) : PV.ty shPl x.v = x.v := by simp [PV.tys]
set_option maxHeartbeats 8000000 in
theorem ev_impl_run (p : GProgram) (cs : List Int) (hcs : cs.length ≤ 9223372036854775807) :
    ∃ x : GPlace, ev fns i_impl_Program_run [p.v, lst 1 cs] [] = some (.tup [str (runP p cs).1, x.v, i64 (runP p cs).2.2], []) ∧ ((runP p cs).2.2 = 0 → x = (runP p cs).2.1) := by
  have h1 := ev_impl_ValidProgram p
  unfold runP
  cases hp : okProgram p
  · rw [hp] at h1
    simp at h1
    refine ⟨⟨0, 0, []⟩, go_impl_Program_run (by simp) ?_, by simp⟩
    simp [ac_impl_Program_run, h1, setCells]
  rw [hp] at h1
  simp at h1
  by_cases hl : cs.length ≤ 200
  · have hx0 : PlI p 0 ⟨0, 0, []⟩ := ⟨⟨by simp, by have := okP_len hp; simp; omega⟩, by simp, by simp⟩
    -- the place's list is nil before the first round, typed behind it
    have key := fun ks => loop_try (F := fun k (s : ByteArray × GPlace) => rE fns fa_impl_Program_run 0 (.code lo_impl_Program_run_0 :: .inBlock 1 :: ks) [(26, i64 (k : Nat)), (25, i64 cs.length), (24, lst 1 cs), (8, .ptr 1 0 0 0), (7, str s.1), (5, .ptr 0 0 0 0), (2, .fptr [lst 2 p.modules] 0)] [.row 3 [zPl] 0, .row 3 [plQ s.2 (if k = 0 then .val (.slice none 0 0) else lst 1 s.2.opn)] 0])
      (ls := cs) (f := runF p) (out := fun x => some (.tup [str ⟨#[]⟩, (⟨0, 0, []⟩ : GPlace).v, i64 4], [])) (I := fun k s => RnI p k s ∧ (k = 0 → s.2.opn = []))
      (fun k s h hi => by
        have hq : PV.ty (.lst 1 (.lst 1 .any)) (if k = 0 then .val (.slice none 0 0) else lst 1 s.2.opn) = lst 1 s.2.opn := by
          split
          · rename_i h0; rw [hi.2 h0]; rfl
          · simp
        have hr := ro_run hp cs hl ks k s _ hq h hi.1
        refine ⟨fun s' hf => ⟨?_, runF_ok hp hi.1 hf, by simp⟩, fun x hf => hr.2 x hf⟩
        rw [hr.1 s' hf]
        simp) (s := (⟨#[]⟩, ⟨0, 0, []⟩)) ⟨⟨hx0, by simp; rfl⟩, by simp⟩
    simp only [if_true, if_pos hl]
    cases ht : tryFold (runF p) (⟨#[]⟩, ⟨0, 0, []⟩) cs with
    | inl s =>
      have k1 := fun ks => ((key ks).1 s ht).1
      have hi := ((key []).1 s ht).2
      obtain ⟨out, x⟩ := s
      have hll : x.opn.length ≤ 140737488355328 := by have := hi.1.1.len; simp at this; omega
      have hq : PV.ty (.lst 1 (.lst 1 .any)) (if cs.length = 0 then .val (.slice none 0 0) else lst 1 x.opn) = lst 1 x.opn := by
        split
        · rename_i h0; have := hi.2 h0; simp at this; rw [this]; rfl
        · simp
      generalize hQ : (if cs.length = 0 then PV.val (.slice none 0 0) else lst 1 x.opn) = q at *
      have hqi := ty_lst_inv hq
      refine ⟨x, go_impl_Program_run (by simp) ?_, fun _ => rfl⟩
      have k2 : ∀ ks, rE fns fa_impl_Program_run 0 (.code lo_impl_Program_run_0 :: .inBlock 1 :: ks) [(26, i64 (cs.length : Nat)), (25, i64 cs.length), (24, lst 1 cs), (8, .ptr 1 0 0 0), (7, str out), (5, .ptr 0 0 0 0), (2, .fptr [lst 2 p.modules] 0)] [.row 3 [zPl] 0, .row 3 [plQ x q] 0] = rE fns fa_impl_Program_run 0 ks [(8, .ptr 1 0 0 0), (7, str out), (5, .ptr 0 0 0 0)] [.row 3 [zPl] 0, .row 3 [plQ x q] 0] := by
        intro ks
        rw [l_impl_Program_run_0]
        simp [lb_impl_Program_run_0]
      have hd : ∀ σ d, dfr σ (d + 1) q = some q := hqi.2.1
      have hd7 : ∀ σ, dfr σ 7 q = some q := fun σ => hd σ 6
      have ho := hqi.1
      simp at k1 k2 hq ho
      simp [ac_impl_Program_run, h1, hl, show ¬ 200 < cs.length by omega, show ¬ (200 : Int) < cs.length by omega, k1, hQ, k2, hq, ho, hqi.2.2.1, hd7, nvRow, PV.bels, PV.bel, setCells]
    | inr x =>
      have k1 := fun ks => (key ks).2 x ht
      refine ⟨⟨0, 0, []⟩, go_impl_Program_run (by simp) ?_, fun h => by simp at h⟩
      simp at k1
      simp [ac_impl_Program_run, h1, hl, show ¬ 200 < cs.length by omega, show ¬ (200 : Int) < cs.length by omega, k1, nvRow, PV.bels, PV.bel, setCells]
  · simp only [if_true, if_neg hl]
    refine ⟨⟨0, 0, []⟩, go_impl_Program_run (by simp) ?_, by simp⟩
    simp [ac_impl_Program_run, h1, show 200 < cs.length by omega, show (200 : Int) < cs.length by omega, setCells]
theorem runP_ok {p : GProgram} {cs : List Int} (h : (runP p cs).2.2 = 0) : okProgram p = true ∧ cs.length ≤ 200 ∧ RnI p cs.length ((runP p cs).1, (runP p cs).2.1) := by
  unfold runP at h ⊢
  split at h
  · rename_i hp
    split at h
    · rename_i hl
      rw [if_pos hp, if_pos hl]
      split at h
      · rename_i s hs
        have key : ∀ (cs : List Int) (k : Nat) (s s' : ByteArray × GPlace), RnI p k s → tryFold (runF p) s cs = .inl s' → RnI p (k + cs.length) s' := by
          intro cs
          induction cs with
          | nil => intro k s s' hi ht; simp [tryFold] at ht; subst ht; exact hi
          | cons c cs ih =>
            intro k s s' hi ht
            unfold tryFold at ht
            cases hf : runF p s c with
            | inl s1 =>
              rw [hf] at ht
              have := ih (k + 1) s1 s' (runF_ok hp hi hf) ht
              rw [List.length_cons, show k + (cs.length + 1) = k + 1 + cs.length by omega]; exact this
            | inr x => rw [hf] at ht; cases ht
        have := key cs 0 _ s ⟨⟨⟨by simp, by have := okP_len hp; simp; omega⟩, by simp, by simp⟩, by simp; rfl⟩ hs
        rw [Nat.zero_add] at this
        exact ⟨hp, hl, this⟩
      · simp at h
    · simp at h
  · simp at h
/-- What ChoicesAt returns. -/
def caL (p : GProgram) (cs : List Int) : List Int := if (runP p cs).2.2 = 0 then chs p (runP p cs).2.1 else []
theorem caL_len (p : GProgram) (cs : List Int) : (caL p cs).length ≤ 13 := by
  unfold caL
  split
  · rename_i h
    obtain ⟨h1, h2, h3⟩ := runP_ok h
    exact chs_len h1 h3.1
  · simp
set_option maxHeartbeats 8000000 in
theorem spC_ChoicesAt (p : GProgram) (hp : Siz.size p ≤ 1048576) (cs : List Int) (hcs : Siz.size cs ≤ 1048576) : ∃ q, ev fns i_spec_ChoicesAt [p.v, lst 1 cs] [] = some (.tup [q, i64 (runP p cs).2.2], []) ∧ q.bel 0 = true ∧ PV.ty (Own.sh (List Int)) q = Enc.pv (caL p cs) := by
  rw [Siz.size_flat_int] at hcs
  obtain ⟨O, h1, h2⟩ := ev_spec_l07Run p cs (by omega)
  simp at h1
  unfold caL
  by_cases hc : (runP p cs).2.2 = 0
  · obtain ⟨g1, g2, g3⟩ := runP_ok hc
    obtain rfl := h2 hc
    rw [hc] at h1
    rw [if_pos hc, hc]
    generalize (runP p cs).2.1 = x at *
    generalize (runP p cs).1 = out at *
    have hl := chs_len g1 g3.1
    simp only at hl
    obtain ⟨m, hm⟩ := Int.eq_ofNat_of_zero_le g3.1.md.1
    simp only at hm
    have hl12 : (md p x.module).links.length ≤ 12 := by
      have := (okM_facts (okP_md g1 (m := m) (by have := g3.1.md.2; simp at this; omega))).2.1
      rw [← hm] at this; exact this
    have lo := fun ks => (loop_nfold (F := fun k (s : List Int) => rE fns fa_spec_ChoicesAt 0 (.code lo_spec_ChoicesAt_0 :: .inBlock 0 :: ks) [(10, i64 ((k : Int) - 1)), (9, .own 0 0 0 s.length), (7, .fptr [i64 x.module, i64 x.node, .list 1 (x.opn.map encO) false] 0), (2, .fptr [lst 2 p.modules] 0)] [.row 1 (s.map Enc.pv) 0])
      (n := 13) (f := fun (s : List Int) (k : Nat) => if canL p x ((k : Int) - 1) = true then s ++ [(k : Int) - 1] else s) (I := fun k s => s.length ≤ k)
      (fun k s h hs => by
        refine ⟨?_, by split <;> (try simp) <;> omega⟩
        have hcan := ev_spec_l07Can g1 (by omega) g3.1 (x.opn.map encO) false (by simp) ((k : Int) - 1)
        have hw := wrap_i64 (n := (k : Int) - 1 + 1) (by omega)
        have b1 : (s.length + 1) * 8 ≤ 140737488355328 := by omega
        have h12 : (k : Int) - 1 < 12 := by omega
        rw [l_spec_ChoicesAt_0]
        simp at hcan hw
        cases hc : canL p x ((k : Int) - 1)
        · rw [hc] at hcan
          simp [lb_spec_ChoicesAt_0, hcan, hw, h12, nvRow, PV.bels]
        · rw [hc] at hcan
          simp [lb_spec_ChoicesAt_0, hcan, hw, h12, b1, nvRow, PV.bels, setCells]) (s := []) (by simp)).1
    simp only [chs_spec hl12] at lo
    have l2 : ∀ ks, rE fns fa_spec_ChoicesAt 0 (.code lo_spec_ChoicesAt_0 :: .inBlock 0 :: ks) [(10, i64 (((13 : Nat) : Int) - 1)), (9, .own 0 0 0 (chs p x).length), (7, .fptr [i64 x.module, i64 x.node, .list 1 (x.opn.map encO) false] 0), (2, .fptr [lst 2 p.modules] 0)] [.row 1 ((chs p x).map Enc.pv) 0] = rE fns fa_spec_ChoicesAt 0 ks [(9, .own 0 0 0 (chs p x).length)] [.row 1 ((chs p x).map Enc.pv) 0] := by
      intro ks
      rw [l_spec_ChoicesAt_0]
      simp [lb_spec_ChoicesAt_0]
    refine ⟨lst 1 (chs p x), go_spec_ChoicesAt (by simp) ?_, by simp, by show PV.ty (.lst 1 .any) (lst 1 (chs p x)) = lst 1 (chs p x); simp⟩
    have hll : (chs p x).length ≤ 140737488355328 := by omega
    simp at lo l2
    simp [ac_spec_ChoicesAt, h1, lo, l2, hll, nvRow, PV.bels]
  · rw [if_neg hc]
    refine ⟨.list 1 [] true, go_spec_ChoicesAt (by simp) ?_, ?_, ?_⟩
    · simp [ac_spec_ChoicesAt, h1, hc]
    · rfl
    · rfl
set_option maxHeartbeats 8000000 in
theorem imC_ChoicesAt (p : GProgram) (hp : Siz.size p ≤ 1048576) (cs : List Int) (hcs : Siz.size cs ≤ 1048576) : ∃ q τ ids, ev fns i_impl_ChoicesAt [p.v, lst 1 cs] [] = some (.tup [q, i64 (runP p cs).2.2], τ) ∧ OwnIn τ ids q (caL p cs) ∧ GoodN τ := by
  rw [Siz.size_flat_int] at hcs
  obtain ⟨x, h1, h2⟩ := ev_impl_run p cs (by omega)
  simp at h1
  unfold caL
  by_cases hc : (runP p cs).2.2 = 0
  · obtain ⟨g1, g2, g3⟩ := runP_ok hc
    obtain rfl := h2 hc
    have h3 := ev_impl_choices g1 (by omega) g3.1
    have hl := chs_len g1 g3.1
    simp only at hl
    rw [hc] at h1
    rw [if_pos hc, hc]
    simp at h3
    generalize (runP p cs).2.1 = x at *
    generalize (runP p cs).1 = out at *
    refine ⟨.own 1 0 0 (chs p x).length, [.row 3 [] 0, .row 1 ((chs p x).map Enc.pv) 0], [1], go_impl_ChoicesAt (by simp) ?_, ⟨own_flat _ rfl (by omega), by simp, by simp⟩, ?_⟩
    · simp [ac_impl_ChoicesAt, h1, h3, nvRow, PV.bels, setCells]
    · have := goodN_intsL (chs p x)
      refine ⟨?_, ?_⟩
      · simp [Good, objsBel, PV.bels]
      · have h := this.2; simp only [List.all_cons, List.all_nil, Bool.and_true] at h ⊢; rw [h]; simp [AObj.nl, PV.nls]
  · rw [if_neg hc]
    refine ⟨.val (.slice none 0 0), [], [], go_impl_ChoicesAt (by simp) ?_, own_nilL, GoodN.nil⟩
    simp [ac_impl_ChoicesAt, h1, hc]
theorem leC_ChoicesAt (p : GProgram) (hp : Siz.size p ≤ 1048576) (cs : List Int) (hcs : Siz.size cs ≤ 1048576) : Siz.size (caL p cs) ≤ 1048576 := by
  rw [Siz.size_flat_int]; have := caL_len p cs; omega
end Go.Proofs.Ytegjfjckijmgcaa
