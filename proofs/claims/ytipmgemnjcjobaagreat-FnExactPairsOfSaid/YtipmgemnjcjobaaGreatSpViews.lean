/- What is known of words: the reference's views. -/
import Derived.Test.YtipmgemnjcjobaaGreatKnown
set_option linter.unusedVariables false
set_option linter.unusedSimpArgs false
set_option maxRecDepth 100000
namespace Go.Proofs.YtipmgemnjcjobaaGreat
open Aw
theorem si0 : intShift .shl .i64 1 0 = some (.int .i64 1) := rfl
theorem si1 : intShift .shl .i64 1 1 = some (.int .i64 2) := rfl
theorem si2 : intShift .shl .i64 1 2 = some (.int .i64 4) := rfl
theorem si3 : intShift .shl .i64 1 3 = some (.int .i64 8) := rfl
theorem si4 : intShift .shl .i64 1 4 = some (.int .i64 16) := rfl
theorem wu0 : IntKind.u64.wrap 0 = 0 := by decide
theorem wu1 : IntKind.u64.wrap 1 = 1 := by decide
theorem wu2 : IntKind.u64.wrap 2 = 2 := by decide
theorem wu3 : IntKind.u64.wrap 3 = 3 := by decide
theorem wu4 : IntKind.u64.wrap 4 = 4 := by decide
abbrev VwQ (v : Vw) : PV := .fptr [i64 (v.p 0), i64 (v.p 1), i64 (v.p 2), i64 (v.p 3), i64 (v.p 4), i64 v.e] 0
@[simp] abbrev zeroI : PV := .agg [i64 0, i64 0, i64 0, i64 0, i64 0, i64 0]
set_option maxHeartbeats 16000000 in
theorem ev_spec_l03Begin (m : GChoices) (h1 : 1 ≤ m.accept.length) (h5 : m.accept.length ≤ 5) (x : Nat) : ev fns i_spec_l03Begin [ChP m, i64 x] [] = some ((Vw.mk (smN m.accept.length) x).i, []) := by
  refine go_spec_l03Begin (by simp) ?_
  have hn : m.accept.length = 1 ∨ m.accept.length = 2 ∨ m.accept.length = 3 ∨ m.accept.length = 4 ∨ m.accept.length = 5 := by omega
  have lo : ∀ ks, rE fns fa_spec_l03Begin 0 (.code lo_spec_l03Begin_0 :: .inBlock 0 :: ks) [(6, i64 0), (5, .ptr 1 0 0 0), (4, .ptr 0 0 0 0), (0, ChP m)] [.row 6 [zeroI] 0, .row 6 [.agg [i64 0, i64 0, i64 0, i64 0, i64 0, i64 x]] 0] =
      rE fns fa_spec_l03Begin 0 ks [(5, .ptr 1 0 0 0), (4, .ptr 0 0 0 0)] [.row 6 [zeroI] 0, .row 6 [(Vw.mk (smN m.accept.length) x).i] 0] := by
    intro ks
    simp only [Vw.i]
    rcases hn with hn | hn | hn | hn | hn <;> rw [hn]
    all_goals
      rw [l_spec_l03Begin_0]
      simp [lb_spec_l03Begin_0, hn, smN, si0, si1, si2, si3, si4, wk1, wk2, wk3, wk4, wk5, wu0, wu1, wu2, wu3, wu4, nvRow, PV.bels, setCells]
      repeat (rw [l_spec_l03Begin_0]; simp [lb_spec_l03Begin_0, hn, smN, si0, si1, si2, si3, si4, wk1, wk2, wk3, wk4, wk5, wu0, wu1, wu2, wu3, wu4, nvRow, PV.bels, setCells])
  simp only [Vw.i] at lo ⊢
  simp at lo
  simp [ac_spec_l03Begin, lo, nvRow, PV.bels, setCells]
  done
/-! ### Images -/
theorem ev_image {b n : Nat} (hn : n ≤ 5) (hb : b < 2 ^ n) (to : Nat → Nat) (ht : ∀ s, s < n → to s < 32) : ev fns i_spec_l03Image [i64 b, lst 1 ((List.range n).map fun s => (to s : Int))] [] = some (i64 (allN b to), []) := by
  have h := ev_spec_l03Image (pow32 hn hb) n hn (fun s => if s < n then to s else 0) (fun s _ => by by_cases hs : s < n <;> simp only [hs, if_true, if_false]; exact ht s hs; omega)
  rw [im_allN hn hb, allN_congr hb (to' := to) (fun s hs => by simp [hs])] at h
  have e : (List.range n).map (fun s => ((if s < n then to s else 0 : Nat) : Int)) = (List.range n).map fun s => (to s : Int) := List.map_congr_left fun s hs => by simp [List.mem_range.1 hs]
  rw [e] at h; exact h
set_option maxHeartbeats 16000000 in
theorem ev_spec_l03Moved {n : Nat} (hn : n ≤ 5) {v : Vw} (hv : okV n v) (to : Nat → Nat) (ht : ∀ s, s < n → to s < 32) : ev fns i_spec_l03Moved [v.i, lst 1 ((List.range n).map fun s => (to s : Int))] [] = some ((Vw.mk (fun i => allN (v.p i) to) (allN v.e to)).i, []) := by
  have a0 := ev_image hn (hv.p 0) to ht
  have a1 := ev_image hn (hv.p 1) to ht
  have a2 := ev_image hn (hv.p 2) to ht
  have a3 := ev_image hn (hv.p 3) to ht
  have a4 := ev_image hn (hv.p 4) to ht
  have a5 := ev_image hn hv.e to ht
  refine go_spec_l03Moved (by simp [Vw.i]) ?_
  simp only [Vw.i]
  simp at a0 a1 a2 a3 a4 a5
  simp [ac_spec_l03Moved, a5, nvRow, PV.bels]
  repeat (rw [l_spec_l03Moved_0]; simp [lb_spec_l03Moved_0, a0, a1, a2, a3, a4, wk1, wk2, wk3, wk4, wk5, nvRow, PV.bels, setCells])
  done
/-! ### Steps -/
abbrev toL (n : Nat) (to : Nat → Nat) : List Int := (List.range n).map fun s => (to s : Int)
theorem toL_succ (n : Nat) (to : Nat → Nat) : toL (n + 1) to = toL n to ++ [(to n : Int)] := by simp [toL, List.range_succ]
theorem toL_len (n : Nat) (to : Nat → Nat) : (toL n to).length = n := by simp [toL]
section
variable {m : GChoices} (hok : okCh m = true) (hz : Siz.size m ≤ 1048576) {v : Vw} (hv : okV m.accept.length v) {k : Nat} (hk : k < 2)
include hok hz hk
set_option maxHeartbeats 8000000 in
theorem lo_called0 {s : Nat} (hs : s < m.accept.length) (L : List Int) (v : Vw) (ks : List KI) :
    rE fns fa_spec_l03Called 0 (.code lo_spec_l03Called_0 :: .inBlock 2 :: ks) [(10, i64 0), (9, i64 0), (8, i64 (s : Nat)), (7, .own 1 0 0 L.length), (6, .ptr 0 0 0 0), (4, VwQ v), (2, i64 (k : Nat)), (0, ChP m)] [.row 6 [zeroI] 0, .row 1 (L.map Enc.pv) 0] =
      rE fns fa_spec_l03Called 0 ks [(9, i64 (callF m k s)), (8, i64 (s : Nat)), (7, .own 1 0 0 L.length), (6, .ptr 0 0 0 0), (4, VwQ v), (2, i64 (k : Nat)), (0, ChP m)] [.row 6 [zeroI] 0, .row 1 (L.map Enc.pv) 0] := by
  obtain ⟨n1, n5, -, S, hS, s1, s4⟩ := okCh_n hok
  obtain ⟨h1, h2, h3, h4, k1, k2, k3, e1, e2, e3, hc, hi, rl, hr⟩ := ch_at hok hS hs hk
  have hl : (cA m s k).length ≤ 1048576 := by
    rw [← e1]; exact (szc hz).2.1 _ (List.getElem_mem h1) _ (List.getElem_mem k1)
  unfold callF
  generalize cA m s k = l at *
  have hm : StN m.accept.length (l.map (·.to)) := fun x hx => by
    obtain ⟨p, hp, rfl⟩ := List.mem_map.1 hx
    exact (hc p hp).1
  have key := fun ks => loop_known (F := fun j (_ : Unit) => rE fns fa_spec_l03Called 0 (.code lo_spec_l03Called_0 :: .inBlock 2 :: ks) [(10, i64 (j : Nat)), (9, i64 (bitsL ((l.map (·.to)).take j))), (8, i64 (s : Nat)), (7, .own 1 0 0 L.length), (6, .ptr 0 0 0 0), (4, VwQ v), (2, i64 (k : Nat)), (0, ChP m)] [.row 6 [zeroI] 0, .row 1 (L.map Enc.pv) 0]) (n := l.length) (fun _ _ => True)
    (fun j _ hj _ => ⟨(), by
      have hp := hc l[j] (List.getElem_mem hj)
      obtain ⟨y, hy⟩ : ∃ y : Nat, (l[j]).to = y := ⟨((l[j]).to).toNat, by omega⟩
      have hy5 : y < 5 := by omega
      have hw := wrap_i64 (n := j + 1) (by omega)
      have hu := wrap_u64 (n := y) (by omega)
      have p1 := pow_lt32 hy5
      have b1 := pow32 n5 (bitsL_ltN (Nat.le_refl _) (hm.take j))
      have hs := shl_i hy5
      have o1 := or_i b1 p1
      have o2 := or_lt b1 p1
      have hj' : j < (l.map (·.to)).length := by simpa using hj
      rw [l_spec_l03Called_0, bitsL_take hj', List.getElem_map, hy]
      have ty : ((y : Nat) : Int).toNat = y := by omega
      rw [ty]
      generalize 2 ^ y = z at *
      generalize bitsL ((l.map (·.to)).take j) = o at *
      have w2 := wrap_i64 (n := ((o ||| z : Nat) : Int)) (by omega)
      have hjl : j < (m.call[s][k]).length := by rw [e1]; exact hj
      have ej : (m.call[s][k])[j] = l[j] := by simp only [e1]
      simp [lb_spec_l03Called_0, h1, k1, e1, hj, hy, hs, hu, m_i b1, m_i p1, w2, hw, nvRow, PV.bels, setCells]
      done, trivial⟩) (s := ()) trivial
  have e0 : bitsL ((l.map (·.to)).take 0) = 0 := rfl
  have e1' : (l.map (·.to)).take l.length = l.map (·.to) := by rw [List.take_of_length_le]; simp
  have e2' : ∀ ks, rE fns fa_spec_l03Called 0 (.code lo_spec_l03Called_0 :: .inBlock 2 :: ks) [(10, i64 (l.length : Nat)), (9, i64 (bitsL (l.map (·.to)))), (8, i64 (s : Nat)), (7, .own 1 0 0 L.length), (6, .ptr 0 0 0 0), (4, VwQ v), (2, i64 (k : Nat)), (0, ChP m)] [.row 6 [zeroI] 0, .row 1 (L.map Enc.pv) 0] = rE fns fa_spec_l03Called 0 ks [(9, i64 (bitsL (l.map (·.to)))), (8, i64 (s : Nat)), (7, .own 1 0 0 L.length), (6, .ptr 0 0 0 0), (4, VwQ v), (2, i64 (k : Nat)), (0, ChP m)] [.row 6 [zeroI] 0, .row 1 (L.map Enc.pv) 0] := fun ks => by
    rw [l_spec_l03Called_0]
    simp [lb_spec_l03Called_0, h1, k1, e1]
  have k2' := fun ks => let ⟨_, h, _⟩ := key ks; h
  simp only [e0, e1', e2'] at k2'
  exact k2' ks
include hv
set_option maxHeartbeats 8000000 in
theorem ev_spec_l03Called : ev fns i_spec_l03Called [ChP m, v.i, i64 (k : Nat)] [] = some ((v.call m k).i, []) := by
  obtain ⟨n1, n5, -, S, hS, s1, s4⟩ := okCh_n hok
  have key := fun ks => loop_known (F := fun s (_ : Unit) => rE fns fa_spec_l03Called 0 (.code lo_spec_l03Called_1 :: .inBlock 0 :: ks) [(8, i64 (s : Nat)), (7, .own 1 0 0 (toL s (callF m k)).length), (6, .ptr 0 0 0 0), (4, VwQ v), (2, i64 (k : Nat)), (0, ChP m)] [.row 6 [zeroI] 0, .row 1 ((toL s (callF m k)).map Enc.pv) 0]) (n := m.accept.length) (fun _ _ => True)
    (fun s _ hs _ => ⟨(), by
      have hw := wrap_i64 (n := s + 1) (by omega)
      have lo := fun ks => lo_called0 hok hz hk hs (toL s (callF m k)) v ks
      rw [l_spec_l03Called_1, toL_succ]
      have hln := toL_len s (callF m k)
      generalize toL s (callF m k) = L at *
      have b1 : (L.length + 1) * 8 ≤ 140737488355328 := by omega
      simp at lo
      simp [lb_spec_l03Called_1, hs, lo, hw, b1, nvRow, PV.bels]
      done, trivial⟩) (s := ()) trivial
  have hi := ev_image n5 hv.e (callF m k) (fun s hs => pow32 n5 (callF_lt hok hk s hs))
  have hb := ev_spec_l03Begin m n1 n5 (allN v.e (callF m k))
  have e0 : toL 0 (callF m k) = [] := rfl
  have e2' : ∀ ks (L : List Int), rE fns fa_spec_l03Called 0 (.code lo_spec_l03Called_1 :: .inBlock 0 :: ks) [(8, i64 (m.accept.length : Nat)), (7, .own 1 0 0 L.length), (6, .ptr 0 0 0 0), (4, VwQ v), (2, i64 (k : Nat)), (0, ChP m)] [.row 6 [zeroI] 0, .row 1 (L.map Enc.pv) 0] = rE fns fa_spec_l03Called 0 ks [(7, .own 1 0 0 L.length), (6, .ptr 0 0 0 0), (4, VwQ v), (0, ChP m)] [.row 6 [zeroI] 0, .row 1 (L.map Enc.pv) 0] := fun ks L => by
    rw [l_spec_l03Called_1]
    simp [lb_spec_l03Called_1]
  have k2' := fun ks => let ⟨_, h, _⟩ := key ks; h
  simp only [e0, e2'] at k2'
  have hln := toL_len m.accept.length (callF m k)
  replace hi : ev fns i_spec_l03Image [i64 v.e, lst 1 (toL m.accept.length (callF m k))] [] = _ := hi
  generalize toL m.accept.length (callF m k) = L at *
  have b2 : L.length ≤ 140737488355328 := by omega
  refine go_spec_l03Called (by simp [Vw.i]) ?_
  simp [Vw.i] at k2' hi hb
  simp [ac_spec_l03Called, Vw.i, Vw.call, k2', hi, hb, b2, nvRow, PV.bels, dfr, mapO, PV.nl, AObj.nl]
  done
end
section
variable {m : GChoices} (hok : okCh m = true) (hz : Siz.size m ≤ 1048576) {v : Vw} (hv : okV m.accept.length v) {k : Nat} (hk : k < 2)
include hok hz hv hk
set_option maxHeartbeats 8000000 in
theorem ev_spec_l03Inner : ev fns i_spec_l03Inner [ChP m, v.i, i64 (k : Nat)] [] = some ((v.inn m k).i, []) := by
  obtain ⟨n1, n5, -, S, hS, s1, s4⟩ := okCh_n hok
  have key := fun ks => loop_known (F := fun s (_ : Unit) => rE fns fa_spec_l03Inner 0 (.code lo_spec_l03Inner_0 :: .inBlock 0 :: ks) [(8, i64 (s : Nat)), (7, .own 1 0 0 (toL s (innF m k)).length), (6, .ptr 0 0 0 0), (4, VwQ v), (2, i64 (k : Nat)), (0, ChP m)] [.row 6 [zeroI] 0, .row 1 ((toL s (innF m k)).map Enc.pv) 0]) (n := m.accept.length) (fun _ _ => True)
    (fun s _ hs _ => ⟨(), by
      obtain ⟨h1, h2, h3, h4, k1, k2, k3, e1, e2, e3, hc, hi, rl, hr⟩ := ch_at hok hS hs hk
      have hl : (iA m s k).length ≤ 1048576 := by
        rw [← e3]; exact (szc hz).2.2.2 _ (List.getElem_mem h3) _ (List.getElem_mem k3)
      have hb := ev_spec_l03Bits (iA m s k) hl (hi.sts n5)
      have hw := wrap_i64 (n := s + 1) (by omega)
      rw [l_spec_l03Inner_0, toL_succ]
      have hln := toL_len s (innF m k)
      generalize toL s (innF m k) = L at *
      have b1 : (L.length + 1) * 8 ≤ 140737488355328 := by omega
      simp at hb
      simp [lb_spec_l03Inner_0, hs, h3, k3, e3, hb, hw, b1, innF, nvRow, PV.bels]
      done, trivial⟩) (s := ()) trivial
  have hi := ev_spec_l03Moved n5 hv (innF m k) (fun s hs => pow32 n5 (innF_lt hok hk s hs))
  have e0 : toL 0 (innF m k) = [] := rfl
  have e2' : ∀ ks (L : List Int), rE fns fa_spec_l03Inner 0 (.code lo_spec_l03Inner_0 :: .inBlock 0 :: ks) [(8, i64 (m.accept.length : Nat)), (7, .own 1 0 0 L.length), (6, .ptr 0 0 0 0), (4, VwQ v), (2, i64 (k : Nat)), (0, ChP m)] [.row 6 [zeroI] 0, .row 1 (L.map Enc.pv) 0] = rE fns fa_spec_l03Inner 0 ks [(7, .own 1 0 0 L.length), (6, .ptr 0 0 0 0), (4, VwQ v)] [.row 6 [zeroI] 0, .row 1 (L.map Enc.pv) 0] := fun ks L => by
    rw [l_spec_l03Inner_0]
    simp [lb_spec_l03Inner_0]
  have k2' := fun ks => let ⟨_, h, _⟩ := key ks; h
  simp only [e0, e2'] at k2'
  have hln := toL_len m.accept.length (innF m k)
  replace hi : ev fns i_spec_l03Moved [v.i, lst 1 (toL m.accept.length (innF m k))] [] = _ := hi
  generalize toL m.accept.length (innF m k) = L at *
  have b2 : L.length ≤ 140737488355328 := by omega
  refine go_spec_l03Inner (by simp [Vw.i]) ?_
  simp [Vw.i] at k2' hi
  simp [ac_spec_l03Inner, Vw.i, Vw.inn, k2', hi, b2, nvRow, PV.bels, dfr, mapO, PV.nl, AObj.nl]
  done
set_option maxHeartbeats 8000000 in
theorem ev_spec_l03Bottom : ev fns i_spec_l03Bottom [ChP m, v.i, i64 (k : Nat)] [] = some ((v.fre m k).i, []) := by
  obtain ⟨n1, n5, -, S, hS, s1, s4⟩ := okCh_n hok
  have key := fun ks => loop_known (F := fun s (_ : Unit) => rE fns fa_spec_l03Bottom 0 (.code lo_spec_l03Bottom_0 :: .inBlock 0 :: ks) [(8, i64 (s : Nat)), (7, .own 1 0 0 (toL s (freF m k)).length), (6, .ptr 0 0 0 0), (4, VwQ v), (2, i64 (k : Nat)), (0, ChP m)] [.row 6 [zeroI] 0, .row 1 ((toL s (freF m k)).map Enc.pv) 0]) (n := m.accept.length) (fun _ _ => True)
    (fun s _ hs _ => ⟨(), by
      obtain ⟨h1, h2, h3, h4, k1, k2, k3, e1, e2, e3, hc, hi, rl, hr⟩ := ch_at hok hS hs hk
      obtain ⟨hx, ex, hm, hl⟩ := ret_at hok hz hS hs hk (Nat.le_refl S)
      have hb := ev_spec_l03Bits _ hl (hm.sts n5)
      have ef : freF m k s = bitsL (rX m s k S) := by unfold freF retF; rw [hS]; rfl
      have hw := wrap_i64 (n := s + 1) (by omega)
      rw [l_spec_l03Bottom_0, toL_succ, ef]
      have hln := toL_len s (freF m k)
      generalize toL s (freF m k) = L at *
      have b1 : (L.length + 1) * 8 ≤ 140737488355328 := by omega
      simp at hb
      simp [lb_spec_l03Bottom_0, hS, hs, h2, k2, e2, hx, ex, hb, hw, b1, nvRow, PV.bels]
      simp only [ChP, VwQ, hS]
      done, trivial⟩) (s := ()) trivial
  have hi := ev_image n5 hv.e (freF m k) (fun s hs => pow32 n5 (retF_lt hok hS hk (by omega) s hs))
  have hb := ev_spec_l03Begin m n1 n5 (allN v.e (freF m k))
  have e0 : toL 0 (freF m k) = [] := rfl
  have e2' : ∀ ks (L : List Int), rE fns fa_spec_l03Bottom 0 (.code lo_spec_l03Bottom_0 :: .inBlock 0 :: ks) [(8, i64 (m.accept.length : Nat)), (7, .own 1 0 0 L.length), (6, .ptr 0 0 0 0), (4, VwQ v), (2, i64 (k : Nat)), (0, ChP m)] [.row 6 [zeroI] 0, .row 1 (L.map Enc.pv) 0] = rE fns fa_spec_l03Bottom 0 ks [(7, .own 1 0 0 L.length), (6, .ptr 0 0 0 0), (4, VwQ v), (0, ChP m)] [.row 6 [zeroI] 0, .row 1 (L.map Enc.pv) 0] := fun ks L => by
    rw [l_spec_l03Bottom_0]
    simp [lb_spec_l03Bottom_0]
  have k2' := fun ks => let ⟨_, h, _⟩ := key ks; h
  simp only [e0, e2'] at k2'
  have hln := toL_len m.accept.length (freF m k)
  replace hi : ev fns i_spec_l03Image [i64 v.e, lst 1 (toL m.accept.length (freF m k))] [] = _ := hi
  generalize toL m.accept.length (freF m k) = L at *
  have b2 : L.length ≤ 140737488355328 := by omega
  refine go_spec_l03Bottom (by simp [Vw.i]) ?_
  simp [Vw.i] at k2' hi hb
  simp [ac_spec_l03Bottom, Vw.i, Vw.fre, k2', hi, hb, b2, nvRow, PV.bels, dfr, mapO, PV.nl, AObj.nl]
  done
end
theorem foldl_or {α : Type} (f : α → Nat) : ∀ (l : List α) (a : Nat), l.foldl (fun o s => o ||| f s) a = a ||| l.foldl (fun o s => o ||| f s) 0
  | [], a => by simp
  | x :: l, a => by
    rw [List.foldl_cons, List.foldl_cons, foldl_or f l (a ||| f x), foldl_or f l (0 ||| f x), Nat.zero_or, Nat.or_assoc]
section
variable {m : GChoices} (hok : okCh m = true) (hz : Siz.size m ≤ 1048576) {v : Vw} (hv : okV m.accept.length v) {k : Nat} (hk : k < 2)
include hok hz hk
set_option maxHeartbeats 8000000 in
theorem lo_back0 {S : Nat} (hS : m.stack = S) {x : Nat} (hx : x ≤ S) (y q i c b a : Nat) (hb : b < 2 ^ m.accept.length) (ha : a < 2 ^ m.accept.length) (L : List Int) (w : Vw) (ks : List KI) :
    rE fns fa_spec_l03Back 0 (.code lo_spec_l03Back_0 :: .inBlock 4 :: ks) [(17, i64 0), (16, lst 1 (stN b)), (15, .ptr 2 0 0 0), (14, i64 (i : Nat)), (13, i64 (a : Nat)), (12, i64 (q : Nat)), (11, .own 1 0 0 L.length), (10, .ptr 0 0 0 0), (7, VwQ w), (6, VwQ v), (4, i64 (k : Nat)), (3, i64 (c : Nat)), (0, ChP m)] [.row 6 [zeroI] 0, .row 1 (L.map Enc.pv) 0, .row 2 [.agg [i64 (y : Nat), i64 (x : Nat)]] 0] =
      rE fns fa_spec_l03Back 0 ks [(14, i64 (i : Nat)), (13, i64 ((a ||| allN b (retF m k x) : Nat))), (12, i64 (q : Nat)), (11, .own 1 0 0 L.length), (10, .ptr 0 0 0 0), (7, VwQ w), (6, VwQ v), (4, i64 (k : Nat)), (3, i64 (c : Nat)), (0, ChP m)] [.row 6 [zeroI] 0, .row 1 (L.map Enc.pv) 0, .row 2 [.agg [i64 (y : Nat), i64 (x : Nat)]] 0] := by
  obtain ⟨n1, n5, -, -, -, -, -⟩ := okCh_n hok
  have hm : StN m.accept.length (stN b) := fun x hx => stN_mem hb hx
  have hlen := stN_len b
  have hfo := foldl_or (fun s : Int => retF m k x s.toNat) (stN b) a
  unfold allN
  rw [← hfo]
  generalize stN b = l at *
  have hlt : ∀ j, (l.take j).foldl (fun o (s : Int) => o ||| retF m k x s.toNat) a < 2 ^ m.accept.length := by
    intro j
    have key : ∀ (l : List Int) (o : Nat), StN m.accept.length l → o < 2 ^ m.accept.length → l.foldl (fun o (s : Int) => o ||| retF m k x s.toNat) o < 2 ^ m.accept.length := by
      intro l
      induction l with
      | nil => intro o _ h; exact h
      | cons z l ih =>
        intro o hl ho
        have hz' := hl z (List.mem_cons_self ..)
        exact ih _ (fun y hy => hl y (List.mem_cons_of_mem _ hy)) (Nat.or_lt_two_pow ho (retF_lt hok hS hk hx _ (by omega)))
    exact key _ _ (hm.take j) ha
  have key := fun ks => loop_known (F := fun j (_ : Unit) => rE fns fa_spec_l03Back 0 (.code lo_spec_l03Back_0 :: .inBlock 4 :: ks) [(17, i64 (j : Nat)), (16, lst 1 l), (15, .ptr 2 0 0 0), (14, i64 (i : Nat)), (13, i64 ((l.take j).foldl (fun o (s : Int) => o ||| retF m k x s.toNat) a : Nat)), (12, i64 (q : Nat)), (11, .own 1 0 0 L.length), (10, .ptr 0 0 0 0), (7, VwQ w), (6, VwQ v), (4, i64 (k : Nat)), (3, i64 (c : Nat)), (0, ChP m)] [.row 6 [zeroI] 0, .row 1 (L.map Enc.pv) 0, .row 2 [.agg [i64 (y : Nat), i64 (x : Nat)]] 0]) (n := l.length) (fun _ _ => True)
    (fun j _ hj _ => ⟨(), by
      have hp := hm l[j] (List.getElem_mem hj)
      obtain ⟨s, hs⟩ : ∃ s : Nat, l[j] = s := ⟨(l[j]).toNat, by omega⟩
      have hsn : s < m.accept.length := by omega
      obtain ⟨h1, h2, h3, h4, k1, k2, k3, e1, e2, e3, hc, hi, rl, hr⟩ := ch_at hok hS hsn hk
      obtain ⟨hx, ex, hmx, hlx⟩ := ret_at hok hz hS hsn hk hx
      have hbt := ev_spec_l03Bits _ hlx (hmx.sts n5)
      have hw := wrap_i64 (n := j + 1) (by omega)
      have a1 := pow32 n5 (retF_lt hok hS hk (x := x) (by omega) s hsn)
      have b1 := pow32 n5 (hlt j)
      have o1 := or_i b1 a1
      have o2 := or_lt b1 a1
      rw [l_spec_l03Back_0, foldl_take _ _ hj, hs]
      have ty : ((s : Nat) : Int).toNat = s := by omega
      rw [ty]
      have er : retF m k x s = bitsL (rX m s k x) := rfl
      rw [er] at a1 o1 o2 ⊢
      generalize bitsL (rX m s k x) = z at *
      generalize (l.take j).foldl (fun o (s : Int) => o ||| retF m k x s.toNat) a = o at *
      have w2 := wrap_i64 (n := ((o ||| z : Nat) : Int)) (by omega)
      simp at hbt
      simp [lb_spec_l03Back_0, hj, hs, h2, k2, e2, hx, ex, hbt, m_i b1, m_i a1, w2, hw, nvRow, PV.bels, setCells]
      done, trivial⟩) (s := ()) trivial
  have e1' : l.take l.length = l := List.take_length
  have e0 : (l.take 0).foldl (fun o (s : Int) => o ||| retF m k x s.toNat) a = a := rfl
  have e2' : ∀ ks (o : Nat), rE fns fa_spec_l03Back 0 (.code lo_spec_l03Back_0 :: .inBlock 4 :: ks) [(17, i64 (l.length : Nat)), (16, lst 1 l), (15, .ptr 2 0 0 0), (14, i64 (i : Nat)), (13, i64 (o : Nat)), (12, i64 (q : Nat)), (11, .own 1 0 0 L.length), (10, .ptr 0 0 0 0), (7, VwQ w), (6, VwQ v), (4, i64 (k : Nat)), (3, i64 (c : Nat)), (0, ChP m)] [.row 6 [zeroI] 0, .row 1 (L.map Enc.pv) 0, .row 2 [.agg [i64 (y : Nat), i64 (x : Nat)]] 0] = rE fns fa_spec_l03Back 0 ks [(14, i64 (i : Nat)), (13, i64 (o : Nat)), (12, i64 (q : Nat)), (11, .own 1 0 0 L.length), (10, .ptr 0 0 0 0), (7, VwQ w), (6, VwQ v), (4, i64 (k : Nat)), (3, i64 (c : Nat)), (0, ChP m)] [.row 6 [zeroI] 0, .row 1 (L.map Enc.pv) 0, .row 2 [.agg [i64 (y : Nat), i64 (x : Nat)]] 0] := fun ks o => by
    rw [l_spec_l03Back_0]
    simp [lb_spec_l03Back_0]
  have k2' := fun ks => let ⟨_, h, _⟩ := key ks; h
  simp only [e0, e1', e2'] at k2'
  exact k2' ks
end
section
variable {m : GChoices} (hok : okCh m = true) (hz : Siz.size m ≤ 1048576) {v : Vw} (hv : okV m.accept.length v) {k : Nat} (hk : k < 2)
include hok hz hk hv
set_option maxHeartbeats 16000000 in
theorem lo_back1 {c : Nat} (hcc : c < 2) {q : Nat} (hq : q < m.accept.length) (L : List Int) (w : Vw) (ks : List KI) :
    rE fns fa_spec_l03Back 0 (.code lo_spec_l03Back_1 :: .inBlock 2 :: ks) [(14, i64 0), (13, i64 0), (12, i64 (q : Nat)), (11, .own 1 0 0 L.length), (10, .ptr 0 0 0 0), (7, VwQ w), (6, VwQ v), (4, i64 (k : Nat)), (3, i64 (c : Nat)), (0, ChP m)] [.row 6 [zeroI] 0, .row 1 (L.map Enc.pv) 0] =
      rE fns fa_spec_l03Back 0 ks [(13, i64 (bakF m v c k q : Nat)), (12, i64 (q : Nat)), (11, .own 1 0 0 L.length), (10, .ptr 0 0 0 0), (7, VwQ w), (6, VwQ v), (4, i64 (k : Nat)), (3, i64 (c : Nat)), (0, ChP m)] [.row 6 [zeroI] 0, .row 1 (L.map Enc.pv) 0] := by
  obtain ⟨n1, n5, -, S, hS, s1, s4⟩ := okCh_n hok
  obtain ⟨h1, h2, h3, h4, k1, k2, k3, e1, e2, e3, hc, hi, rl, hr⟩ := ch_at hok hS hq hcc
  have hl : (cA m q c).length ≤ 1048576 := by
    rw [← e1]; exact (szc hz).2.1 _ (List.getElem_mem h1) _ (List.getElem_mem k1)
  have hbl := back_lt hok hv hcc hk hq
  unfold bakF
  generalize cA m q c = l at *
  have key := fun ks => loop_known (F := fun j (_ : Unit) => rE fns fa_spec_l03Back 0 (.code lo_spec_l03Back_1 :: .inBlock 2 :: ks) [(14, i64 (j : Nat)), (13, i64 ((l.take j).foldl (fun o p => o ||| allN (v.p p.to.toNat) (retF m k p.put.toNat)) 0 : Nat)), (12, i64 (q : Nat)), (11, .own 1 0 0 L.length), (10, .ptr 0 0 0 0), (7, VwQ w), (6, VwQ v), (4, i64 (k : Nat)), (3, i64 (c : Nat)), (0, ChP m)] [.row 6 [zeroI] 0, .row 1 (L.map Enc.pv) 0]) (n := l.length) (fun _ _ => True)
    (fun j _ hj _ => ⟨(), by
      have hp := hc l[j] (List.getElem_mem hj)
      obtain ⟨y, hy⟩ : ∃ y : Nat, (l[j]).to = y := ⟨((l[j]).to).toNat, by omega⟩
      obtain ⟨x, hx⟩ : ∃ x : Nat, (l[j]).put = x := ⟨((l[j]).put).toNat, by omega⟩
      have hy5 : y < 5 := by omega
      have hw := wrap_i64 (n := j + 1) (by omega)
      have hls := ev_spec_l03List (pow32 n5 (hv.p y))
      have lo := fun ks => lo_back0 (v := v) hok hz hk hS (x := x) (by omega) y q j c (v.p y) _ (hv.p y) (hbl j) L w ks
      rw [l_spec_l03Back_1, foldl_take _ _ hj, hy, hx]
      have ty : ((y : Nat) : Int).toNat = y := by omega
      have tx : ((x : Nat) : Int).toNat = x := by omega
      rw [ty, tx]
      generalize (l.take j).foldl (fun o p => o ||| allN (v.p p.to.toNat) (retF m k p.put.toNat)) 0 = o at *
      have hyc : y = 0 ∨ y = 1 ∨ y = 2 ∨ y = 3 ∨ y = 4 := by omega
      rcases hyc with rfl | rfl | rfl | rfl | rfl <;> simp at hls hy lo <;> simp [lb_spec_l03Back_1, h1, k1, e1, hj, hy, hx, hls, lo, hw, nvRow, PV.bels, setCells]
      done, trivial⟩) (s := ()) trivial
  have e1' : l.take l.length = l := List.take_length
  have e0 : (l.take 0).foldl (fun o p => o ||| allN (v.p p.to.toNat) (retF m k p.put.toNat)) 0 = 0 := rfl
  have e2' : ∀ ks (o : Nat), rE fns fa_spec_l03Back 0 (.code lo_spec_l03Back_1 :: .inBlock 2 :: ks) [(14, i64 (l.length : Nat)), (13, i64 (o : Nat)), (12, i64 (q : Nat)), (11, .own 1 0 0 L.length), (10, .ptr 0 0 0 0), (7, VwQ w), (6, VwQ v), (4, i64 (k : Nat)), (3, i64 (c : Nat)), (0, ChP m)] [.row 6 [zeroI] 0, .row 1 (L.map Enc.pv) 0] = rE fns fa_spec_l03Back 0 ks [(13, i64 (o : Nat)), (12, i64 (q : Nat)), (11, .own 1 0 0 L.length), (10, .ptr 0 0 0 0), (7, VwQ w), (6, VwQ v), (4, i64 (k : Nat)), (3, i64 (c : Nat)), (0, ChP m)] [.row 6 [zeroI] 0, .row 1 (L.map Enc.pv) 0] := fun ks o => by
    rw [l_spec_l03Back_1]
    simp [lb_spec_l03Back_1, h1, k1, e1]
  have k2' := fun ks => let ⟨_, h, _⟩ := key ks; h
  simp only [e0, e1', e2'] at k2'
  exact k2' ks
set_option maxHeartbeats 16000000 in
theorem ev_spec_l03Back {b : Vw} (hb : okV m.accept.length b) {c : Nat} (hc : c < 2) : ev fns i_spec_l03Back [ChP m, v.i, b.i, i64 (c : Nat), i64 (k : Nat)] [] = some ((b.bak m v c k).i, []) := by
  obtain ⟨n1, n5, -, S, hS, s1, s4⟩ := okCh_n hok
  have key := fun ks => loop_known (F := fun s (_ : Unit) => rE fns fa_spec_l03Back 0 (.code lo_spec_l03Back_2 :: .inBlock 0 :: ks) [(12, i64 (s : Nat)), (11, .own 1 0 0 (toL s (bakF m v c k)).length), (10, .ptr 0 0 0 0), (7, VwQ b), (6, VwQ v), (4, i64 (k : Nat)), (3, i64 (c : Nat)), (0, ChP m)] [.row 6 [zeroI] 0, .row 1 ((toL s (bakF m v c k)).map Enc.pv) 0]) (n := m.accept.length) (fun _ _ => True)
    (fun s _ hs _ => ⟨(), by
      have hw := wrap_i64 (n := s + 1) (by omega)
      have lo := fun ks => lo_back1 hok hz hv hk hc hs (toL s (bakF m v c k)) b ks
      rw [l_spec_l03Back_2, toL_succ]
      have hln := toL_len s (bakF m v c k)
      generalize toL s (bakF m v c k) = L at *
      have b1 : (L.length + 1) * 8 ≤ 140737488355328 := by omega
      simp at lo
      simp [lb_spec_l03Back_2, hs, lo, hw, b1, nvRow, PV.bels]
      done, trivial⟩) (s := ()) trivial
  have hi := ev_spec_l03Moved n5 hb (bakF m v c k) (fun s hs => pow32 n5 (bakF_lt hok hv hc hk s hs))
  have e0 : toL 0 (bakF m v c k) = [] := rfl
  have e2' : ∀ ks (L : List Int), rE fns fa_spec_l03Back 0 (.code lo_spec_l03Back_2 :: .inBlock 0 :: ks) [(12, i64 (m.accept.length : Nat)), (11, .own 1 0 0 L.length), (10, .ptr 0 0 0 0), (7, VwQ b), (6, VwQ v), (4, i64 (k : Nat)), (3, i64 (c : Nat)), (0, ChP m)] [.row 6 [zeroI] 0, .row 1 (L.map Enc.pv) 0] = rE fns fa_spec_l03Back 0 ks [(11, .own 1 0 0 L.length), (10, .ptr 0 0 0 0), (7, VwQ b)] [.row 6 [zeroI] 0, .row 1 (L.map Enc.pv) 0] := fun ks L => by
    rw [l_spec_l03Back_2]
    simp [lb_spec_l03Back_2]
  have k2' := fun ks => let ⟨_, h, _⟩ := key ks; h
  simp only [e0, e2'] at k2'
  have hln := toL_len m.accept.length (bakF m v c k)
  replace hi : ev fns i_spec_l03Moved [b.i, lst 1 (toL m.accept.length (bakF m v c k))] [] = _ := hi
  generalize toL m.accept.length (bakF m v c k) = L at *
  have b2 : L.length ≤ 140737488355328 := by omega
  refine go_spec_l03Back (by simp [Vw.i]) ?_
  simp [Vw.i] at k2' hi
  simp [ac_spec_l03Back, Vw.i, Vw.bak, k2', hi, b2, nvRow, PV.bels, dfr, mapO, PV.nl, AObj.nl]
  done
end
end Go.Proofs.YtipmgemnjcjobaaGreat
