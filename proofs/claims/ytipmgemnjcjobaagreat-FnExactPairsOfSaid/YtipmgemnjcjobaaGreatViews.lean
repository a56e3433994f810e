/- What is known of words: the program's views, step by step. -/
import Derived.Test.YtipmgemnjcjobaaGreatChPure
set_option linter.unusedVariables false
set_option linter.unusedSimpArgs false
set_option maxRecDepth 100000
namespace Go.Proofs.YtipmgemnjcjobaaGreat
open Aw
theorem wk1 : IntKind.i64.wrap 1 = 1 := by decide
theorem wk2 : IntKind.i64.wrap 2 = 2 := by decide
theorem wk3 : IntKind.i64.wrap 3 = 3 := by decide
theorem wk4 : IntKind.i64.wrap 4 = 4 := by decide
theorem wk5 : IntKind.i64.wrap 5 = 5 := by decide
theorem sh0 : intShift .shl .u64 1 0 = some (.int .u64 1) := rfl
theorem sh1 : intShift .shl .u64 1 1 = some (.int .u64 2) := rfl
theorem sh2 : intShift .shl .u64 1 2 = some (.int .u64 4) := rfl
theorem sh3 : intShift .shl .u64 1 3 = some (.int .u64 8) := rfl
theorem sh4 : intShift .shl .u64 1 4 = some (.int .u64 16) := rfl
set_option maxHeartbeats 16000000 in
theorem ev_impl_same (m : GChoices) (h1 : 1 ≤ m.accept.length) (h5 : m.accept.length ≤ 5) : ev fns i_impl_Choices_same [m.v] [] = some (.agg [u64 (smN m.accept.length 0), u64 (smN m.accept.length 1), u64 (smN m.accept.length 2), u64 (smN m.accept.length 3), u64 (smN m.accept.length 4)], []) := by
  refine go_impl_Choices_same (by simp) ?_
  have hn : m.accept.length = 1 ∨ m.accept.length = 2 ∨ m.accept.length = 3 ∨ m.accept.length = 4 ∨ m.accept.length = 5 := by omega
  have lo : ∀ ks, rE fns fa_impl_Choices_same 0 (.code lo_impl_Choices_same_0 :: .inBlock 0 :: ks) [(9, i64 0), (8, i64 m.accept.length), (3, .ptr 1 0 0 0), (2, .ptr 0 0 0 0)] [.row 5 [.agg [u64 0, u64 0, u64 0, u64 0, u64 0]] 0, .row 5 [.agg [u64 0, u64 0, u64 0, u64 0, u64 0]] 0] =
      rE fns fa_impl_Choices_same 0 ks [(3, .ptr 1 0 0 0), (2, .ptr 0 0 0 0)] [.row 5 [.agg [u64 0, u64 0, u64 0, u64 0, u64 0]] 0, .row 5 [.agg [u64 (smN m.accept.length 0), u64 (smN m.accept.length 1), u64 (smN m.accept.length 2), u64 (smN m.accept.length 3), u64 (smN m.accept.length 4)]] 0] := by
    intro ks
    rcases hn with hn | hn | hn | hn | hn <;> rw [hn]
    all_goals
      rw [l_impl_Choices_same_0]
      simp [lb_impl_Choices_same_0, smN, sh0, sh1, sh2, sh3, sh4, wk1, wk2, wk3, wk4, wk5, nvRow, PV.bels, setCells]
      repeat (rw [l_impl_Choices_same_0]; simp [lb_impl_Choices_same_0, smN, sh0, sh1, sh2, sh3, sh4, wk1, wk2, wk3, wk4, wk5, nvRow, PV.bels, setCells])
  simp at lo
  simp [ac_impl_Choices_same, lo, nvRow, PV.bels, setCells]
  done
/-! ### What the program's closures come to -/
theorem ev_call_1 {m : GChoices} (hok : okCh m = true) (hz : Siz.size m ≤ 1048576) {s k : Nat} (hs : s < m.accept.length) (hk : k < 2) : ev fns i_impl_Choices_call_1 [i64 (s : Nat), ChP m, .fptr [i64 (k : Nat)] 0] [] = some (u64 (callF m k s), []) := by
  obtain ⟨n1, n5, -, S, hS, s1, s4⟩ := okCh_n hok
  obtain ⟨h1, h2, h3, h4, k1, k2, k3, e1, e2, e3, hc, hi, rl, hr⟩ := ch_at hok hS hs hk
  have hl : (cA m s k).length ≤ 1048576 := by
    rw [← e1]; exact (szc hz).2.1 _ (List.getElem_mem h1) _ (List.getElem_mem k1)
  refine go_impl_Choices_call_1 (by simp) ?_
  unfold callF
  generalize cA m s k = l at *
  have hm : StN m.accept.length (l.map (·.to)) := fun x hx => by
    obtain ⟨p, hp, rfl⟩ := List.mem_map.1 hx
    exact (hc p hp).1
  have key := fun ks => loop_known (F := fun j (_ : Unit) => rE fns fa_impl_Choices_call_1 0 (.code lo_impl_Choices_call_1_0 :: .inBlock 0 :: ks) [(17, i64 (j : Nat)), (16, i64 l.length), (15, lst 2 l), (5, u64 (bitsL ((l.map (·.to)).take j)))] []) (n := l.length) (fun _ _ => True)
    (fun j _ hj _ => ⟨(), by
      have hp := hc l[j] (List.getElem_mem hj)
      obtain ⟨y, hy⟩ : ∃ y : Nat, (l[j]).to = y := ⟨((l[j]).to).toNat, by omega⟩
      have hy5 : y < 5 := by omega
      have hw := wrap_i64 (n := j + 1) (by omega)
      have p1 := pow_lt32 hy5
      have b1 := pow32 n5 (bitsL_ltN (Nat.le_refl _) (hm.take j))
      have hs := shl_u hy5
      have o1 := or_u b1 p1
      have o2 := or_lt b1 p1
      have hj' : j < (l.map (·.to)).length := by simpa using hj
      rw [l_impl_Choices_call_1_0, bitsL_take hj', List.getElem_map, hy]
      have ty : ((y : Nat) : Int).toNat = y := by omega
      rw [ty]
      generalize 2 ^ y = z at *
      generalize bitsL ((l.map (·.to)).take j) = o at *
      have w2 := wrap_u64 (n := ((o ||| z : Nat) : Int)) (by omega)
      simp [lb_impl_Choices_call_1_0, hj, hy, hs, m_u b1, m_u p1, w2, hw, nvRow, PV.bels, setCells]
      done, trivial⟩) (s := ()) trivial
  have e0 : bitsL ((l.map (·.to)).take 0) = 0 := rfl
  have e1' : (l.map (·.to)).take l.length = l.map (·.to) := by rw [List.take_of_length_le]; simp
  have e2' : ∀ ks, rE fns fa_impl_Choices_call_1 0 (.code lo_impl_Choices_call_1_0 :: .inBlock 0 :: ks) [(17, i64 (l.length : Nat)), (16, i64 l.length), (15, lst 2 l), (5, u64 (bitsL (l.map (·.to))))] [] = rE fns fa_impl_Choices_call_1 0 ks [(5, u64 (bitsL (l.map (·.to))))] [] := fun ks => by
    rw [l_impl_Choices_call_1_0]
    simp [lb_impl_Choices_call_1_0]
  have k2' := fun ks => let ⟨_, h, _⟩ := key ks; h
  simp only [e0, e1', e2'] at k2'
  simp at k2'
  simp [ac_impl_Choices_call_1, h1, k1, e1, k2']
  done
theorem ev_inner_1 {m : GChoices} (hok : okCh m = true) (hz : Siz.size m ≤ 1048576) {s k : Nat} (hs : s < m.accept.length) (hk : k < 2) : ev fns i_impl_Choices_inner_1 [i64 (s : Nat), ChP m, .fptr [i64 (k : Nat)] 0] [] = some (u64 (innF m k s), []) := by
  obtain ⟨n1, n5, -, S, hS, s1, s4⟩ := okCh_n hok
  obtain ⟨h1, h2, h3, h4, k1, k2, k3, e1, e2, e3, hc, hi, rl, hr⟩ := ch_at hok hS hs hk
  have hl : (iA m s k).length ≤ 1048576 := by
    rw [← e3]; exact (szc hz).2.2.2 _ (List.getElem_mem h3) _ (List.getElem_mem k3)
  have hb := ev_impl_bits (iA m s k) hl (hi.sts n5)
  refine go_impl_Choices_inner_1 (by simp) ?_
  unfold innF
  simp at hb
  simp [ac_impl_Choices_inner_1, h3, k3, e3, hb]
  done
theorem ret_at {m : GChoices} (hok : okCh m = true) (hz : Siz.size m ≤ 1048576) {S : Nat} (hS : m.stack = S) {s k x : Nat} (hs : s < m.accept.length) (hk : k < 2) (hx : x ≤ S) :
    ∃ h : x < (rA m s k).length, (rA m s k)[x] = rX m s k x ∧ StN m.accept.length (rX m s k x) ∧ (rX m s k x).length ≤ 1048576 := by
  have hA := ch_at hok hS hs hk
  have hl : x < (rA m s k).length := by have := hA.rl; omega
  have hm := rX_mem hok hS hs hk hx
  refine ⟨hl, (getD_at' hl).symm, hA.r _ hm, ?_⟩
  have := (szc hz).2.2.1 _ (List.getElem_mem hA.h2) _ (List.getElem_mem hA.k2)
  rw [hA.e2] at this
  exact this.2 _ hm
theorem ev_free_1 {m : GChoices} (hok : okCh m = true) (hz : Siz.size m ≤ 1048576) {s k : Nat} (hs : s < m.accept.length) (hk : k < 2) : ev fns i_impl_Choices_free_1 [i64 (s : Nat), ChP m, .fptr [i64 (k : Nat)] 0] [] = some (u64 (freF m k s), []) := by
  obtain ⟨n1, n5, -, S, hS, s1, s4⟩ := okCh_n hok
  obtain ⟨h1, h2, h3, h4, k1, k2, k3, e1, e2, e3, hc, hi, rl, hr⟩ := ch_at hok hS hs hk
  obtain ⟨hx, ex, hm, hl⟩ := ret_at hok hz hS hs hk (Nat.le_refl S)
  have hb := ev_impl_bits _ hl (hm.sts n5)
  have ef : freF m k s = bitsL (rX m s k S) := by unfold freF retF; rw [hS]; rfl
  refine go_impl_Choices_free_1 (by simp) ?_
  rw [ef]
  simp at hb
  simp [ac_impl_Choices_free_1, hS, h2, k2, e2, hx, ex, hb]
  done
theorem ev_back_1_1 {m : GChoices} (hok : okCh m = true) (hz : Siz.size m ≤ 1048576) {S : Nat} (hS : m.stack = S) {s k x : Nat} (to : Int) (hs : s < m.accept.length) (hk : k < 2) (hx : x ≤ S) : ev fns i_impl_Choices_back_1_1 [i64 (s : Nat), ChP m, .fptr [i64 (k : Nat)] 0, .fptr [i64 to, i64 (x : Nat)] 0] [] = some (u64 (retF m k x s), []) := by
  obtain ⟨n1, n5, -, S', hS', s1, s4⟩ := okCh_n hok
  obtain ⟨h1, h2, h3, h4, k1, k2, k3, e1, e2, e3, hc, hi, rl, hr⟩ := ch_at hok hS hs hk
  obtain ⟨hx, ex, hm, hl⟩ := ret_at hok hz hS hs hk hx
  have hb := ev_impl_bits _ hl (hm.sts n5)
  refine go_impl_Choices_back_1_1 (by simp) ?_
  unfold retF
  simp at hb
  simp [ac_impl_Choices_back_1_1, h2, k2, e2, hx, ex, hb]
  done
theorem foldl_take {α β : Type} (f : β → α → β) (a : β) {l : List α} {j : Nat} (h : j < l.length) : (l.take (j + 1)).foldl f a = f ((l.take j).foldl f a) l[j] := by
  rw [List.take_add_one, List.getElem?_eq_getElem h, List.foldl_append]; rfl
abbrev VwP (v : Vw) : PV := .fptr [u64 (v.p 0), u64 (v.p 1), u64 (v.p 2), u64 (v.p 3), u64 (v.p 4), u64 v.e] 0
theorem back_lt {m : GChoices} (hok : okCh m = true) {v : Vw} (hv : okV m.accept.length v) {c k q : Nat} (hc : c < 2) (hk : k < 2) (hq : q < m.accept.length) (j : Nat) :
    ((cA m q c).take j).foldl (fun o p => o ||| allN (v.p p.to.toNat) (retF m k p.put.toNat)) 0 < 2 ^ m.accept.length := by
  obtain ⟨-, -, -, S, hS, -, -⟩ := okCh_n hok
  have h := (ch_at hok hS hq hc).c
  have key : ∀ (l : List GPush) (o : Nat), (∀ p ∈ l, (0 ≤ p.to ∧ p.to < m.accept.length) ∧ 0 ≤ p.put ∧ p.put < S) → o < 2 ^ m.accept.length → l.foldl (fun o p => o ||| allN (v.p p.to.toNat) (retF m k p.put.toNat)) o < 2 ^ m.accept.length := by
    intro l
    induction l with
    | nil => intro o _ h; exact h
    | cons p l ih =>
      intro o hl ho
      have hp := hl p (List.mem_cons_self ..)
      exact ih _ (fun y hy => hl y (List.mem_cons_of_mem _ hy)) (Nat.or_lt_two_pow ho (allN_lt (hv.p _) (retF_lt hok hS hk (by omega))))
  exact key _ 0 (fun p hp => h p (List.mem_of_mem_take hp)) (Nat.pow_pos (by omega))
theorem all_ret {m : GChoices} (hok : okCh m = true) (hz : Siz.size m ≤ 1048576) {S : Nat} (hS : m.stack = S) {k x : Nat} (to : Int) (hk : k < 2) (hx : x ≤ S) {b : Nat} (hb : b < 2 ^ m.accept.length) :
    ev fns i_impl_all [u64 b, .fn i_impl_Choices_back_1_1 [ChP m, .fptr [i64 (k : Nat)] 0, .fptr [i64 to, i64 (x : Nat)] 0]] [] = some (u64 (allN b (retF m k x)), []) := by
  obtain ⟨n1, n5, -, -, -, -, -⟩ := okCh_n hok
  refine ev_impl_all n5 hb _ (by simp) _ (fun s hs => pow32 n5 (retF_lt hok hS hk hx s hs)) fun σ s hs => ?_
  have h := ev_back_1_1 hok hz hS to hs hk hx
  rw [callV_fn]
  simp at h
  simp [h]
set_option maxHeartbeats 16000000 in
theorem ev_back_1 {m : GChoices} (hok : okCh m = true) (hz : Siz.size m ≤ 1048576) {v : Vw} (hv : okV m.accept.length v) {q c k : Nat} (hq : q < m.accept.length) (hcc : c < 2) (hk : k < 2) : ev fns i_impl_Choices_back_1 [i64 (q : Nat), ChP m, .fptr [i64 (c : Nat)] 0, VwP v, .fptr [i64 (k : Nat)] 0] [] = some (u64 (bakF m v c k q), []) := by
  obtain ⟨n1, n5, -, S, hS, s1, s4⟩ := okCh_n hok
  obtain ⟨h1, h2, h3, h4, k1, k2, k3, e1, e2, e3, hc, hi, rl, hr⟩ := ch_at hok hS hq hcc
  have hl : (cA m q c).length ≤ 1048576 := by
    rw [← e1]; exact (szc hz).2.1 _ (List.getElem_mem h1) _ (List.getElem_mem k1)
  have hbl := back_lt hok hv hcc hk hq
  refine go_impl_Choices_back_1 (by simp) ?_
  unfold bakF
  generalize cA m q c = l at *
  have key := fun ks => loop_known (F := fun j (_ : Unit) => rE fns fa_impl_Choices_back_1 0 (.code lo_impl_Choices_back_1_0 :: .inBlock 0 :: ks) [(19, i64 (j : Nat)), (18, i64 l.length), (17, lst 2 l), (7, u64 ((l.take j).foldl (fun o p => o ||| allN (v.p p.to.toNat) (retF m k p.put.toNat)) 0 : Nat)), (4, .fptr [i64 (k : Nat)] 0), (3, VwP v), (1, ChP m)] []) (n := l.length) (fun _ _ => True)
    (fun j _ hj _ => ⟨(), by
      have hp := hc l[j] (List.getElem_mem hj)
      obtain ⟨y, hy⟩ : ∃ y : Nat, (l[j]).to = y := ⟨((l[j]).to).toNat, by omega⟩
      obtain ⟨x, hx⟩ : ∃ x : Nat, (l[j]).put = x := ⟨((l[j]).put).toNat, by omega⟩
      have hy5 : y < 5 := by omega
      have hw := wrap_i64 (n := j + 1) (by omega)
      have ha := all_ret hok hz hS (y : Int) hk (x := x) (by omega) (hv.p y)
      have a1 := pow32 n5 (allN_lt (hv.p y) (retF_lt hok hS hk (x := x) (by omega)))
      have b1 := pow32 n5 (hbl j)
      have o1 := or_u b1 a1
      have o2 := or_lt b1 a1
      rw [l_impl_Choices_back_1_0, foldl_take _ _ hj, hy, hx]
      have ty : ((y : Nat) : Int).toNat = y := by omega
      have tx : ((x : Nat) : Int).toNat = x := by omega
      rw [ty, tx]
      generalize allN (v.p y) (retF m k x) = z at *
      generalize (l.take j).foldl (fun o p => o ||| allN (v.p p.to.toNat) (retF m k p.put.toNat)) 0 = o at *
      have w2 := wrap_u64 (n := ((o ||| z : Nat) : Int)) (by omega)
      have hyc : y = 0 ∨ y = 1 ∨ y = 2 ∨ y = 3 ∨ y = 4 := by omega
      simp at ha
      rcases hyc with rfl | rfl | rfl | rfl | rfl <;> simp at ha hy <;> simp [lb_impl_Choices_back_1_0, hj, hy, hx, ha, m_u b1, m_u a1, w2, hw, nvRow, PV.bels, setCells, dfr, mapO, PV.nl, AObj.nl]
      done, trivial⟩) (s := ()) trivial
  have e1' : l.take l.length = l := List.take_length
  have e0 : (l.take 0).foldl (fun o p => o ||| allN (v.p p.to.toNat) (retF m k p.put.toNat)) 0 = 0 := rfl
  have e2' : ∀ ks o, rE fns fa_impl_Choices_back_1 0 (.code lo_impl_Choices_back_1_0 :: .inBlock 0 :: ks) [(19, i64 (l.length : Nat)), (18, i64 l.length), (17, lst 2 l), (7, u64 o), (4, .fptr [i64 (k : Nat)] 0), (3, VwP v), (1, ChP m)] [] = rE fns fa_impl_Choices_back_1 0 ks [(7, u64 o)] [] := fun ks o => by
    rw [l_impl_Choices_back_1_0]
    simp [lb_impl_Choices_back_1_0]
  have k2' := fun ks => let ⟨_, h, _⟩ := key ks; h
  simp only [e0, e1', e2'] at k2'
  simp at k2'
  simp [ac_impl_Choices_back_1, h1, k1, e1, k2']
  done
/-! ### The program's views -/
section
variable {m : GChoices} (hok : okCh m = true) (hz : Siz.size m ≤ 1048576) {v : Vw} (hv : okV m.accept.length v) {k : Nat} (hk : k < 2)
include hok hz hk
theorem all_call {b : Nat} (hb : b < 2 ^ m.accept.length) : ev fns i_impl_all [u64 b, .fn i_impl_Choices_call_1 [ChP m, .fptr [i64 (k : Nat)] 0]] [] = some (u64 (allN b (callF m k)), []) := by
  have n5 := (okCh_n hok).2.1
  refine ev_impl_all n5 hb _ (by simp) _ (fun s hs => pow32 n5 (callF_lt hok hk s hs)) fun σ s hs => ?_
  have h := ev_call_1 hok hz hs hk
  rw [callV_fn]
  simp at h
  simp [h]
theorem all_inner {b : Nat} (hb : b < 2 ^ m.accept.length) : ev fns i_impl_all [u64 b, .fn i_impl_Choices_inner_1 [ChP m, .fptr [i64 (k : Nat)] 0]] [] = some (u64 (allN b (innF m k)), []) := by
  have n5 := (okCh_n hok).2.1
  refine ev_impl_all n5 hb _ (by simp) _ (fun s hs => pow32 n5 (innF_lt hok hk s hs)) fun σ s hs => ?_
  have h := ev_inner_1 hok hz hs hk
  rw [callV_fn]
  simp at h
  simp [h]
theorem all_free {b : Nat} (hb : b < 2 ^ m.accept.length) : ev fns i_impl_all [u64 b, .fn i_impl_Choices_free_1 [ChP m, .fptr [i64 (k : Nat)] 0]] [] = some (u64 (allN b (freF m k)), []) := by
  obtain ⟨-, n5, -, S, hS, -, -⟩ := okCh_n hok
  refine ev_impl_all n5 hb _ (by simp) _ (fun s hs => pow32 n5 (retF_lt hok hS hk (by omega) s hs)) fun σ s hs => ?_
  have h := ev_free_1 hok hz hs hk
  rw [callV_fn]
  simp at h
  simp [h]
include hv
theorem all_back {c : Nat} (hc : c < 2) {b : Nat} (hb : b < 2 ^ m.accept.length) : ev fns i_impl_all [u64 b, .fn i_impl_Choices_back_1 [ChP m, .fptr [i64 (c : Nat)] 0, VwP v, .fptr [i64 (k : Nat)] 0]] [] = some (u64 (allN b (bakF m v c k)), []) := by
  have n5 := (okCh_n hok).2.1
  refine ev_impl_all n5 hb _ (by simp) _ (fun s hs => pow32 n5 (bakF_lt hok hv hc hk s hs)) fun σ s hs => ?_
  have h := ev_back_1 hok hz hv hs hc hk
  rw [callV_fn]
  simp at h
  simp [h]
theorem ev_Choices_call : ev fns i_impl_Choices_call [m.v, v.u, i64 (k : Nat)] [] = some ((v.call m k).u, []) := by
  obtain ⟨n1, n5, -, -⟩ := okCh_n hok
  have h1 := ev_impl_same m n1 n5
  have h2 := all_call hok hz hk hv.e
  refine go_impl_Choices_call (by simp [Vw.u]) ?_
  simp at h1 h2
  simp [ac_impl_Choices_call, Vw.u, Vw.call, h1, h2]
  done
theorem ev_Choices_free : ev fns i_impl_Choices_free [m.v, v.u, i64 (k : Nat)] [] = some ((v.fre m k).u, []) := by
  obtain ⟨n1, n5, -, -⟩ := okCh_n hok
  have h1 := ev_impl_same m n1 n5
  have h2 := all_free hok hz hk hv.e
  refine go_impl_Choices_free (by simp [Vw.u]) ?_
  simp at h1 h2
  simp [ac_impl_Choices_free, Vw.u, Vw.fre, h1, h2]
  done
set_option maxHeartbeats 16000000 in
theorem ev_Choices_inner : ev fns i_impl_Choices_inner [m.v, v.u, i64 (k : Nat)] [] = some ((v.inn m k).u, []) := by
  have a0 := all_inner hok hz hk (hv.p 0)
  have a1 := all_inner hok hz hk (hv.p 1)
  have a2 := all_inner hok hz hk (hv.p 2)
  have a3 := all_inner hok hz hk (hv.p 3)
  have a4 := all_inner hok hz hk (hv.p 4)
  have a5 := all_inner hok hz hk hv.e
  refine go_impl_Choices_inner (by simp [Vw.u]) ?_
  simp at a0 a1 a2 a3 a4 a5
  simp [ac_impl_Choices_inner, Vw.u, Vw.inn, nvRow, PV.bels]
  repeat (rw [l_impl_Choices_inner_0]; simp [lb_impl_Choices_inner_0, a0, a1, a2, a3, a4, a5, wk1, wk2, wk3, wk4, wk5, nvRow, PV.bels, setCells])
  done
set_option maxHeartbeats 16000000 in
theorem ev_Choices_back {b : Vw} (hb : okV m.accept.length b) {c : Nat} (hc : c < 2) : ev fns i_impl_Choices_back [m.v, b.u, i64 (c : Nat), v.u, i64 (k : Nat)] [] = some ((b.bak m v c k).u, []) := by
  have a0 := all_back hok hz hv hk hc (hb.p 0)
  have a1 := all_back hok hz hv hk hc (hb.p 1)
  have a2 := all_back hok hz hv hk hc (hb.p 2)
  have a3 := all_back hok hz hv hk hc (hb.p 3)
  have a4 := all_back hok hz hv hk hc (hb.p 4)
  have a5 := all_back hok hz hv hk hc hb.e
  refine go_impl_Choices_back (by simp [Vw.u]) ?_
  simp at a0 a1 a2 a3 a4 a5
  simp [ac_impl_Choices_back, Vw.u, Vw.bak, a5, nvRow, PV.bels]
  repeat (rw [l_impl_Choices_back_0]; simp [lb_impl_Choices_back_0, a0, a1, a2, a3, a4, a5, wk1, wk2, wk3, wk4, wk5, nvRow, PV.bels, setCells])
  done
end
theorem ev_Choices_start {m : GChoices} (hok : okCh m = true) (hz : Siz.size m ≤ 1048576) : ev fns i_impl_Choices_start [m.v] [] = some ((startV m).u, []) := by
  obtain ⟨n1, n5, hs, -⟩ := okCh_n hok
  have h1 := ev_impl_same m n1 n5
  have h2 := ev_impl_bits m.starts (szc hz).1 (hs.sts n5)
  refine go_impl_Choices_start (by simp) ?_
  simp at h1 h2
  simp [ac_impl_Choices_start, Vw.u, startV, h1, h2]
  done
end Go.Proofs.YtipmgemnjcjobaaGreat
