/- The states to which moves lead: the reference's search as a whole, and both contracts. -/
import Derived.Test.YtoliadfdklfmfaaUs3
import Derived.Test.YtoliadfdklfmfaaLwC
set_option linter.unusedVariables false
set_option linter.unusedSimpArgs false
set_option maxRecDepth 100000
namespace Go.Proofs.Ytoliadfdklfmfaa
open Aw
/-- From one state of the reference's search to another one. -/
structure TdI (s0 s : List Int × Bool × List Int) : Prop where
  asc : s.1.Pairwise (· < ·)
  a : ∀ x ∈ s0.1, x ∈ s.1
  b : ∀ x ∈ s0.2.2, x ∈ s.2.2
  n : ∀ x ∈ s.1, x ∈ s0.1 ∨ x ∈ s.2.2
  t : ∀ x ∈ s.2.2, x ∈ s0.2.2 ∨ x ∈ s.1
  l : s.1.length + s0.2.2.length = s0.1.length + s.2.2.length
theorem TdI.refl {s : List Int × Bool × List Int} (h : s.1.Pairwise (· < ·)) : TdI s s := ⟨h, fun _ h => h, fun _ h => h, fun _ h => .inl h, fun _ h => .inl h, by omega⟩
theorem TdI.step {s0 s : List Int × Bool × List Int} (h : TdI s0 s) (t : Int) : TdI s0 (tdF s t) := by
  unfold tdF
  split
  · exact h
  · rename_i hn
    refine ⟨insL_asc t h.asc, fun x hx => (insL_mem t _ x).2 (.inr (h.a x hx)), fun x hx => List.mem_append_left _ (h.b x hx), fun x hx => ?_, fun x hx => ?_, ?_⟩
    · rcases (insL_mem t _ x).1 hx with rfl | hx
      · exact .inr (by simp)
      · rcases h.n x hx with h1 | h1
        · exact .inl h1
        · exact .inr (List.mem_append_left _ h1)
    · rcases List.mem_append.1 hx with hx | hx
      · rcases h.t x hx with h1 | h1
        · exact .inl h1
        · exact .inr ((insL_mem t _ x).2 (.inr h1))
      · simp at hx; subst hx; exact .inr ((insL_mem x _ x).2 (.inl rfl))
    · have := h.l; rw [insL_len t hn]; simp; omega
theorem TdI.fold {s0 : List Int × Bool × List Int} : ∀ (R : List Int) {s : List Int × Bool × List Int}, TdI s0 s → TdI s0 (R.foldl tdF s)
  | [], _, h => h
  | t :: R, _, h => TdI.fold R (h.step t)
theorem tdF_mem : ∀ (R : List Int) (s : List Int × Bool × List Int) (x : Int), x ∈ (R.foldl tdF s).1 ↔ x ∈ s.1 ∨ x ∈ R
  | [], s, x => by simp
  | t :: R, s, x => by
    rw [List.foldl_cons, tdF_mem R, List.mem_cons]
    unfold tdF
    split
    · rename_i h
      constructor
      · rintro (h1 | h1)
        · exact .inl h1
        · exact .inr (.inr h1)
      · rintro (h1 | rfl | h1)
        · exact .inl h1
        · exact .inl h
        · exact .inr h1
    · rw [show (insL t s.1, false, s.2.2 ++ [t]).1 = insL t s.1 from rfl, insL_mem]
      constructor
      · rintro ((h1 | h1) | h1)
        · exact .inr (.inl h1)
        · exact .inl h1
        · exact .inr (.inr h1)
      · rintro (h1 | h1 | h1)
        · exact .inl (.inr h1)
        · exact .inl (.inl h1)
        · exact .inr h1
/-- What is known in the reference's search. -/
structure UrI (c : GChecker) (o T : List Int) : Prop where
  st : c.start ∈ o
  asc : o.Pairwise (· < ·)
  rc : ∀ x ∈ o, Rch c x
  ti : ∀ x ∈ T, x ∈ o
  cl : ∀ x ∈ o, x ∈ T ∨ ∀ t ∈ nxC c x.toNat, t ∈ o
  tl : T.length ≤ o.length
theorem UrI.start (c : GChecker) : UrI c [c.start] [c.start] := ⟨by simp, by simp, by simp; exact .start, by simp, by simp, by simp⟩
theorem asc_nodup {l : List Int} (h : l.Pairwise (· < ·)) : l.Nodup := h.imp fun h e => by omega
theorem UrI.len {c : GChecker} (hok : okCk c = true) {o T : List Int} (h : UrI c o T) : o.length ≤ c.accept.length := nodup_len (asc_nodup h.asc) fun x hx => rch_in hok (h.rc x hx)
theorem UrI.next {c : GChecker} {o T : List Int} {s : Int} (h : UrI c o (s :: T)) {R : List Int} (hR : ∀ x, x ∈ R ↔ x ∈ nxC c s.toNat) (ex : Bool) : UrI c (R.foldl tdF (o, ex, T)).1 (R.foldl tdF (o, ex, T)).2.2 := by
  have hf := TdI.fold R (TdI.refl (s := (o, ex, T)) h.asc)
  have hm := tdF_mem R (o, ex, T)
  generalize R.foldl tdF (o, ex, T) = f at *
  have hs : s ∈ o := h.ti s (by simp)
  have hti : ∀ x ∈ T, x ∈ f.1 := fun x hx => hf.a x (h.ti x (by simp [hx]))
  refine ⟨hf.a _ h.st, hf.asc, fun x hx => ?_, fun x hx => ?_, fun x hx => ?_, ?_⟩
  · rcases (hm x).1 hx with hx | hx
    · exact h.rc x hx
    · exact .step (h.rc s hs) ((hR x).1 hx)
  · rcases hf.t x hx with hx | hx
    · exact hti x hx
    · exact hx
  · rcases hf.n x hx with h1 | h1
    · rcases h.cl x h1 with h2 | h2
      · rcases List.mem_cons.1 h2 with rfl | h2
        · exact .inr fun t ht => (hm t).2 (.inr ((hR t).2 ht))
        · exact .inl (hf.b x h2)
      · exact .inr fun t ht => hf.a t (h2 t ht)
    · exact .inl h1
  · have := hf.l; have := h.tl; simp at *; omega
theorem UrI.done {c : GChecker} (hok : okCk c = true) {o : List Int} (h : UrI c o []) : o = usL c :=
  usL_eq hok h.asc fun x => rch_iff h.st h.rc (fun x hx t ht => by
    rcases h.cl x hx with h1 | h1
    · simp at h1
    · exact h1 t ht) x
/-- Has nothing been added yet? -/
def exU (o : List Int) : Bool := decide (o.length = 1)
theorem tdF_ex : ∀ (R : List Int) {s : List Int × Bool × List Int}, s.2.1 = exU s.1 → s.1 ≠ [] → (R.foldl tdF s).2.1 = exU (R.foldl tdF s).1 ∧ (R.foldl tdF s).1 ≠ []
  | [], _, h, k => ⟨h, k⟩
  | t :: R, s, h, k => by
    rw [List.foldl_cons]
    have : (tdF s t).2.1 = exU (tdF s t).1 ∧ (tdF s t).1 ≠ [] := by
      unfold tdF
      split
      · exact ⟨h, k⟩
      · rename_i hn
        have hl := insL_len t hn
        have hp := List.length_pos_iff.2 k
        refine ⟨?_, fun e => ?_⟩
        · show false = exU (insL t s.1)
          unfold exU
          simp; omega
        · have e : insL t s.1 = [] := e
          rw [e] at hl; simp at hl
    exact tdF_ex R this.1 this.2
set_option maxHeartbeats 4000000 in
theorem us_2 (c : GChecker) (hok : okCk c = true) (ks : List KI) (r : Fr × List AObj) (hend : ∀ (P : List Int), rU ks [(3, .list 1 ((usL c).map Enc.pv) (exU (usL c)))] [.row 1 (P.map Enc.pv) 0] = some r) :
    ∀ (m : Nat) (P o T : List Int) (ex : Bool), (c.accept.length - o.length) + T.length ≤ m → UrI c o T → ex = exU o →
    rU (.code lo_spec_l02Used_2 :: .inBlock 0 :: ks) [(4, .own 0 0 P.length T.length), (3, .list 1 (o.map Enc.pv) ex), (0, CkP c)] [.row 1 ((P ++ T).map Enc.pv) 0] = some r := by
  have g1 := (okCk_len hok).1
  have g2 := (okCk_len hok).2.1
  simp only [inR, Bool.and_eq_true, decide_eq_true_eq] at g1 g2
  have nil : ∀ (P o : List Int) (ex : Bool), UrI c o [] → ex = exU o → rU (.code lo_spec_l02Used_2 :: .inBlock 0 :: ks) [(4, .own 0 0 P.length 0), (3, .list 1 (o.map Enc.pv) ex), (0, CkP c)] [.row 1 (P.map Enc.pv) 0] = some r := by
    intro P o ex hI hx
    have he := hend P
    rw [← hI.done hok, ← hx] at he
    unfold rU at he ⊢
    rw [u_2]
    simp at he
    simp [run_inBlock, run_ins_nil, run_dins_nil, run_skip, run_seq, run_block, run_reg, run_draw, run_exit, run_ghost, run_post, run_gh, run_cond, run_ins, run_dins, lb_spec_l02Used_2, he]
  intro m
  induction m with
  | zero =>
    intro P o T ex hm hI hx
    have hT : T = [] := List.eq_nil_of_length_eq_zero (by omega)
    subst hT
    simpa using nil P o ex hI hx
  | succ m ih =>
    intro P o T ex hm hI hx
    cases T with
    | nil => simpa using nil P o ex hI hx
    | cons s T =>
      have hl := hI.len hok
      have hs := rch_in hok (hI.rc s (hI.ti s (by simp)))
      obtain ⟨n, h1, h2, h3, h4, p0, p1, q0, q1, i0, i1, es, e1, e2, e3, k1, k2, k3, k4, k5, k6⟩ := ck_at hok (s := s) (by simp only [inR, Bool.and_eq_true, decide_eq_true_eq]; omega)
      subst es
      simp only [okSts, Bool.and_eq_true, decide_eq_true_eq] at k3 k4
      have hn := nxC_row h1 h2 h3 e1 e2 e3
      have hR : ∀ x, x ∈ nxS p0 p1 q0 q1 i0 i1 ↔ x ∈ nxC c (n : Int).toNat := fun x => by
        rw [Int.toNat_natCast, hn]
        simp only [nxS, List.mem_cons, List.mem_append, List.not_mem_nil, or_false]
        constructor
        · rintro (h | h | h | h | h | h) <;> simp [h]
        · rintro (h | h | (h | h) | h | h) <;> simp [h]
      have hI1 := hI.next hR ex
      have hf0 : ∀ k, TdI (o, ex, T) (((nxS p0 p1 q0 q1 i0 i1).take k).foldl tdF (o, ex, T)) := fun k => TdI.fold _ (TdI.refl (s := (o, ex, T)) hI.asc)
      have hln : ∀ k, (((nxS p0 p1 q0 q1 i0 i1).take k).foldl tdF (o, ex, T)).1.length ≤ c.accept.length := fun k => nodup_len (asc_nodup (hf0 k).asc) fun x hx => by
        rcases (tdF_mem _ _ x).1 hx with h | h
        · exact rch_in hok (hI.rc x h)
        · exact rch_in hok (.step (hI.rc _ (hI.ti _ (by simp))) ((hR x).1 (List.mem_of_mem_take h)))
      have htl := hI.tl
      simp only [List.length_cons] at htl
      have hon : ∀ k, k ≤ (nxS p0 p1 q0 q1 i0 i1).length → (((nxS p0 p1 q0 q1 i0 i1).take k).foldl tdF (o, ex, T)).1.length ≤ 100 ∧ (((nxS p0 p1 q0 q1 i0 i1).take k).foldl tdF (o, ex, T)).2.2.length ≤ 100 := fun k _ => by
        have a := hln k
        have b := (hf0 k).l
        simp only at b
        omega
      have hfl := (hf0 (nxS p0 p1 q0 q1 i0 i1).length).l
      rw [List.take_length] at hfl
      have hnl : (nxS p0 p1 q0 q1 i0 i1).length ≤ 3000 := by simp; omega
      have hlf := hln (nxS p0 p1 q0 q1 i0 i1).length
      rw [List.take_length] at hlf
      have hxx := (tdF_ex (nxS p0 p1 q0 q1 i0 i1) (s := (o, ex, T)) hx (fun e => by have := hI.st; rw [show o = [] from e] at this; simp at this)).1
      have h1' := us_1 c (nxS p0 p1 q0 q1 i0 i1) hnl (.inBlock 1 :: .gh .nv :: .code lo_spec_l02Used_2 :: .inBlock 0 :: ks) r _ (o, ex, T) rfl hon (fun P' => by
        have h2 := ih P' _ _ ((nxS p0 p1 q0 q1 i0 i1).foldl tdF (o, ex, T)).2.1 (by simp only [List.length_cons] at hm; simp only at hfl; omega) hI1 hxx
        generalize (nxS p0 p1 q0 q1 i0 i1).foldl tdF (o, ex, T) = F at *
        obtain ⟨a, x, b⟩ := F
        have t2 : List.take (P'.length + b.length) (P'.map Enc.pv ++ b.map Enc.pv) = P'.map Enc.pv ++ b.map Enc.pv := List.take_of_length_le (by simp)
        have t3 : ∀ n, PV.bels n (P'.map Enc.pv ++ b.map Enc.pv) = true := fun n => by rw [bels_append]; simp
        unfold rU at h2 ⊢
        simp at t2 t3 h2
        simp [run_inBlock, run_gh, nvRow, t2, t3, h2]) (nxS p0 p1 q0 q1 i0 i1).length 0 (by omega) (P ++ [(n : Int)]) (o, ex, T) rfl
      have hhead := us_head c P T n p0 p1 q0 q1 i0 i1 h1 h2 h3 e1 e2 e3 (by omega) (by omega) o ex (.inBlock 0 :: ks)
      have e0 : (P ++ (n : Int) :: T).map Enc.pv = P.map Enc.pv ++ i64 n :: T.map Enc.pv := by simp
      have e9 : P ++ [(n : Int)] ++ T = P ++ (n : Int) :: T := by simp
      rw [e9] at h1'
      rw [List.length_cons, e0, hhead]
      simpa using h1'
theorem ev_spec_l02Used (c : GChecker) (hok : okCk c = true) : ev fns i_spec_l02Used [CkP c] [] = some (.list 1 ((usL c).map Enc.pv) (exU (usL c)), []) := by
  refine go_spec_l02Used (by simp) ?_
  have g1 := (okCk_len hok).1
  simp only [inR, Bool.and_eq_true, decide_eq_true_eq] at g1
  have hl := usL_len c
  have hrun := us_2 c hok [.gh .nv, .code (.ghost (.kill [0, 4, 6, 8]) (.seq (.post (.reg [⟨(some 90), .op (.mv (.tmp 3)), none⟩, ⟨(some 2), .op (.mv (.tmp 90)), none⟩]) (.kill [3, 90])) .ret))] ([(2, .list 1 ((usL c).map Enc.pv) (exU (usL c)))], []) (fun P => by
    unfold rU
    simp [run_ret, run_inBlock, run_ins_nil, run_dins_nil, run_skip, run_seq, run_block, run_reg, run_draw, run_exit, run_ghost, run_post, run_gh, run_cond, run_ins, run_dins, nvRow]) _ [] [c.start] [c.start] true (Nat.le_refl _) (UrI.start c) rfl
  have hrE : rE fns fa_spec_l02Used 0 [.code lo_spec_l02Used_2, .inBlock 0, .gh .nv, .code (.ghost (.kill [0, 4, 6, 8]) (.seq (.post (.reg [⟨(some 90), .op (.mv (.tmp 3)), none⟩, ⟨(some 2), .op (.mv (.tmp 90)), none⟩]) (.kill [3, 90])) .ret))] [(4, .own 0 0 0 1), (3, .list 1 ([c.start].map Enc.pv) true), (0, CkP c)] [.row 1 ([c.start].map Enc.pv) 0] = some (.list 1 ((usL c).map Enc.pv) (exU (usL c)), []) := by
    unfold rE
    have hrun := hrun
    unfold rU at hrun
    simp only [List.length_nil, List.nil_append, List.length_cons, Nat.zero_add] at hrun
    rw [hrun]
    simp [fin, fin0]
  simp at hrE
  simp [ac_spec_l02Used, hrE]
/-- What UsedStates answers. -/
noncomputable def usA (c : GChecker) : List Int × Int := if okCk c = true then (usL c, 0) else ([], 1)
theorem spC_UsedStates (c : GChecker) (hz : Siz.size c ≤ 1048576) : ∃ q, ev fns i_spec_UsedStates [c.v] [] = some (.tup [q, i64 (usA c).2], []) ∧ q.bel 0 = true ∧ PV.ty (Own.sh (List Int)) q = Enc.pv (usA c).1 := by
  have hv := ev_spec_l02Ok c hz
  unfold usA
  cases c1 : okCk c
  · rw [c1] at hv
    simp at hv
    refine ⟨.list 1 [] true, go_spec_UsedStates (by simp) ?_, rfl, rfl⟩
    simp [ac_spec_UsedStates, hv]
  · rw [c1] at hv
    have hu := ev_spec_l02Used c c1
    simp at hv hu
    refine ⟨.list 1 ((usL c).map Enc.pv) (exU (usL c)), go_spec_UsedStates (by simp) ?_, rfl, ?_⟩
    · simp [ac_spec_UsedStates, hv, hu]
    · rw [if_pos rfl]
      cases usL c with
      | nil => rfl
      | cons x l =>
        show PV.list 1 (PV.ty (Own.sh Int) (Enc.pv x) :: (l.map Enc.pv).map (PV.ty (Own.sh Int))) false = lst 1 (x :: l)
        have e : PV.ty (Own.sh Int) = id := PV.ty_any
        rw [e]; simp
theorem imC_UsedStates (c : GChecker) (hz : Siz.size c ≤ 1048576) : ∃ p τ ids, ev fns i_impl_UsedStates [c.v] [] = some (.tup [p, i64 (usA c).2], τ) ∧ OwnIn τ ids p (usA c).1 ∧ GoodN τ := by
  have hv := ev_impl_ValidChecker c hz
  unfold usA
  cases c1 : okCk c
  · rw [c1] at hv
    simp at hv
    refine ⟨.val (.slice none 0 0), [], [], go_impl_UsedStates (by simp) ?_, ⟨.inl ⟨rfl, rfl, rfl⟩, by simp, by simp⟩, GoodN.nil⟩
    simp [ac_impl_UsedStates, hv]
  · rw [c1] at hv
    have hu := ev_impl_used c c1
    have g1 := (okCk_len c1).1
    simp only [inR, Bool.and_eq_true, decide_eq_true_eq] at g1
    have hl := usL_len c
    simp at hv hu
    refine ⟨.own 0 0 0 (usL c).length, [.row 1 ((usL c).map Enc.pv) 0], [0], go_impl_UsedStates (by simp) ?_, ⟨own_flat (usL c) rfl (by omega), by simp, by simp⟩, ?_⟩
    · simp [ac_impl_UsedStates, hv, hu]
    · refine ⟨by simp only [Gud, List.length_singleton, objsBel, Bool.and_true]; exact bels_map _ _, ?_⟩
      simp only [List.all_cons, List.all_nil, Bool.and_true, AObj.nl, PV.nls_iff]
      intro p hp
      obtain ⟨y, _, rfl⟩ := List.mem_map.1 hp
      simp [PV.nl]
theorem leC_UsedStates (c : GChecker) (hz : Siz.size c ≤ 1048576) : Siz.size (usA c).1 ≤ 1048576 := by
  unfold usA
  split
  · rename_i h
    have g1 := (okCk_len h).1
    simp only [inR, Bool.and_eq_true, decide_eq_true_eq] at g1
    have := usL_len c
    rw [Siz.size_flat_int]; simp only; omega
  · simp [Siz.size_list, Siz.sum]
end Go.Proofs.Ytoliadfdklfmfaa
