/- Programs that run: the choices at a place, and what a choice makes. -/
import Derived.Test.YtegjfjckijmgcaaValidProgram
import Derived.Test.YtegjfjckijmgcaaLoops2
import Derived.Test.YtegjfjckijmgcaaLwC
set_option linter.unusedVariables false
set_option linter.unusedSimpArgs false
set_option maxRecDepth 100000
namespace Go.Proofs.Ytegjfjckijmgcaa
open Aw

abbrev PgP (p : GProgram) : PV := .fptr [lst 2 p.modules] 0
/-- A module, a link by their numbers. -/
def md (p : GProgram) (m : Int) : GModule := p.modules.getD m.toNat ⟨0, []⟩
def lk (p : GProgram) (m c : Int) : GLink := (md p m).links.getD c.toNat ⟨0, 0, ⟨#[]⟩, 0⟩
theorem md_at {p : GProgram} {m : Nat} (h : m < p.modules.length) : p.modules[m] = md p m := by
  unfold md; rw [Int.toNat_natCast, List.getD_eq_getElem?_getD, List.getElem?_eq_getElem h]; rfl
theorem lk_at {p : GProgram} {m : Int} {c : Nat} (h : c < (md p m).links.length) : (md p m).links[c] = lk p m c := by
  unfold lk; rw [Int.toNat_natCast, List.getD_eq_getElem?_getD, List.getElem?_eq_getElem h]; rfl
/-- A place of a program. -/
structure PlI (p : GProgram) (k : Nat) (x : GPlace) : Prop where
  md : 0 ≤ x.module ∧ x.module < p.modules.length
  opn : ∀ o ∈ x.opn, ∃ a b : Nat, o = [(a : Int), (b : Int)] ∧ a < p.modules.length ∧ b < (Go.Proofs.Ytegjfjckijmgcaa.md p a).links.length
  len : x.opn.length ≤ k
theorem okP_md {p : GProgram} (hp : okProgram p = true) {m : Nat} (h : m < p.modules.length) : okModule p.modules.length (md p m) = true := by
  simp only [okProgram, Bool.and_eq_true, List.all_eq_true] at hp
  rw [← md_at h]; exact hp.2 _ (List.getElem_mem h)
theorem okP_len {p : GProgram} (hp : okProgram p = true) : 1 ≤ p.modules.length ∧ p.modules.length ≤ 4 := by
  simp only [okProgram, inR, Bool.and_eq_true, decide_eq_true_eq] at hp
  omega
theorem okM_facts {n : Int} {m : GModule} (h : okModule n m = true) : (1 ≤ m.nodes ∧ m.nodes ≤ 8) ∧ m.links.length ≤ 12 ∧ ∀ l ∈ m.links, okLink n m.nodes l = true := by
  simp only [okModule, inR, Bool.and_eq_true, decide_eq_true_eq, List.all_eq_true] at h
  exact ⟨h.1.1, h.1.2, h.2⟩
/-- Which choices can be made. -/
def canL (p : GProgram) (x : GPlace) (c : Int) : Bool :=
  if c = -1 then decide (x.node = (md p x.module).nodes - 1) && decide (0 < x.opn.length)
  else inR c 0 ((md p x.module).links.length - 1) && decide ((lk p x.module c).frm = x.node)
/-- The choices at a place. -/
def chs (p : GProgram) (x : GPlace) : List Int :=
  (List.range (md p x.module).links.length).foldl (fun (s : List Int) (k : Nat) => if (lk p x.module (k : Int)).frm = x.node then s ++ [(k : Int)] else s) (if canL p x (-1) = true then [-1] else [])
theorem foldl_pick (q : Nat → Bool) : ∀ (ks : List Nat) (s : List Int), ks.foldl (fun (s : List Int) (k : Nat) => if q k = true then s ++ [(k : Int)] else s) s = s ++ (ks.filter q).map Int.ofNat
  | [], s => by simp
  | k :: ks, s => by
    simp only [List.foldl_cons]
    rw [foldl_pick q ks]
    cases h : q k <;> simp [List.filter_cons, h]
theorem chs_eq (p : GProgram) (x : GPlace) : chs p x = (if canL p x (-1) = true then [-1] else []) ++ ((List.range (md p x.module).links.length).filter fun (k : Nat) => decide ((lk p x.module (k : Int)).frm = x.node)).map Int.ofNat := by
  rw [← foldl_pick]
  simp [chs]
theorem chs_mem (p : GProgram) (x : GPlace) (c : Int) : (chs p x).contains c = canL p x c := by
  rw [chs_eq]
  by_cases hc : c = -1
  · subst hc
    cases h : canL p x (-1)
    · simp [List.contains_eq_any_beq, List.any_eq_false]
    · simp
  · have e1 : (if canL p x (-1) = true then [(-1 : Int)] else []).contains c = false := by
      split
      · simp [hc]
      · rfl
    rw [Bool.eq_iff_iff]
    simp only [List.contains_iff_mem, List.mem_append, List.mem_map, List.mem_filter, List.mem_range, decide_eq_true_eq]
    have e2 : ¬ c ∈ (if canL p x (-1) = true then [(-1 : Int)] else []) := by rw [← List.contains_iff_mem, e1]; simp
    unfold canL
    rw [if_neg hc]
    simp only [inR, Bool.and_eq_true, decide_eq_true_eq]
    constructor
    · rintro (h | ⟨k, ⟨h1, h2⟩, rfl⟩)
      · exact absurd h e2
      · simp only [Int.ofNat_eq_natCast] at *
        exact ⟨⟨by omega, by omega⟩, h2⟩
    · rintro ⟨⟨h1, h2⟩, h3⟩
      obtain ⟨k, rfl⟩ := Int.eq_ofNat_of_zero_le h1
      exact .inr ⟨k, ⟨by omega, h3⟩, rfl⟩
/-- The same, asked of twelve links at most. -/
theorem chs_spec {p : GProgram} {x : GPlace} (h : (md p x.module).links.length ≤ 12) :
    (List.range 13).foldl (fun (s : List Int) (k : Nat) => if canL p x ((k : Int) - 1) = true then s ++ [(k : Int) - 1] else s) [] = chs p x := by
  have g : ∀ (ks : List Nat) (s : List Int), ks.foldl (fun (s : List Int) (k : Nat) => if canL p x ((k : Int) - 1) = true then s ++ [(k : Int) - 1] else s) s = s ++ (ks.filter fun (k : Nat) => canL p x ((k : Int) - 1)).map (fun (k : Nat) => (k : Int) - 1) := by
    intro ks
    induction ks with
    | nil => simp
    | cons k ks ih =>
      intro s
      simp only [List.foldl_cons]
      rw [ih]
      cases h : canL p x ((k : Int) - 1) <;> simp [List.filter_cons, h]
  rw [g, chs_eq, List.nil_append]
  have e0 : List.range 13 = 0 :: (List.range 12).map (· + 1) := by decide
  rw [e0]
  have e1 : ((List.range 12).map (· + 1)).filter (fun k : Nat => canL p x ((k : Int) - 1)) = ((List.range 12).filter fun k : Nat => canL p x (k : Int)).map (· + 1) := by
    rw [List.filter_map]
    congr 1
  have e2 : (List.range 12).filter (fun k : Nat => canL p x (k : Int)) = (List.range (md p x.module).links.length).filter fun (k : Nat) => decide ((lk p x.module (k : Int)).frm = x.node) := by
    have : 12 = (md p x.module).links.length + (12 - (md p x.module).links.length) := by omega
    rw [this, List.range_add, List.filter_append]
    have z : ((List.range (12 - (md p x.module).links.length)).map ((md p x.module).links.length + ·)).filter (fun k : Nat => canL p x (k : Int)) = [] := by
      rw [List.filter_eq_nil_iff]
      intro k hk
      obtain ⟨j, _, rfl⟩ := List.mem_map.1 hk
      unfold canL
      rw [if_neg (by omega)]
      simp [inR]
      omega
    rw [z, List.append_nil]
    refine List.filter_congr fun k hk => ?_
    have hk := List.mem_range.1 hk
    unfold canL
    rw [if_neg (by omega)]
    simp [inR]
    omega
  rw [List.filter_cons, e1, e2]
  cases h : canL p x (-1)
  · have : canL p x (((0 : Nat) : Int) - 1) = false := h
    rw [this]
    simp [List.map_map]
  · have : canL p x (((0 : Nat) : Int) - 1) = true := h
    rw [this]
    simp [List.map_map]

/-! ### The reference -/
theorem ev_spec_l07Exit {p : GProgram} (hp : okProgram p = true) {m : Nat} (hm : m < p.modules.length) : ev fns i_spec_l07Exit [PgP p, i64 m] [] = some (i64 ((md p m).nodes - 1), []) := by
  refine go_spec_l07Exit (by simp) ?_
  have h1 := okM_facts (okP_md hp hm)
  have hw := wrap_i64 (n := (md p m).nodes - 1) (by omega)
  have e := md_at hm
  simp [ac_spec_l07Exit, hm, e, hw]
theorem ev_spec_l07Can {p : GProgram} (hp : okProgram p = true) {k : Nat} (hk : k ≤ 1000) {x : GPlace} (hx : PlI p k x) (os : List PV) (b : Bool) (ho : os.length = x.opn.length) (c : Int) :
    ev fns i_spec_l07Can [PgP p, .fptr [i64 x.module, i64 x.node, .list 1 os b] 0, i64 c] [] = some (bol (canL p x c), []) := by
  obtain ⟨m, nd, op⟩ := x
  obtain ⟨m, rfl⟩ := Int.eq_ofNat_of_zero_le hx.md.1
  have hm : m < p.modules.length := by have := hx.md.2; simp at this; omega
  have e := md_at hm
  have h1 := okM_facts (okP_md hp hm)
  have he := ev_spec_l07Exit hp hm
  have hl := hx.len
  simp at he ho
  refine go_spec_l07Can (by simp) ?_
  by_cases hc : c = -1
  · subst hc
    by_cases g : nd = (md p m).nodes - 1
    · simp [ac_spec_l07Can, hm, e, he, canL, ho, eq_true g]
      try omega
    · simp [ac_spec_l07Can, hm, e, he, canL, ho, g]
  · have hw := wrap_i64 (n := ((md p m).links.length : Int) - 1) (by omega)
    cases g : inR c 0 ((md p m).links.length - 1)
    · simp [ac_spec_l07Can, hm, e, hc, hw, canL, g]
    · have g' := g
      simp only [inR, Bool.and_eq_true, decide_eq_true_eq] at g'
      obtain ⟨c, rfl⟩ := Int.eq_ofNat_of_zero_le g'.1
      have hcl : c < (md p m).links.length := by omega
      have e2 := lk_at hcl
      simp [ac_spec_l07Can, hm, e, hc, hw, canL, g, hcl, e2, show ¬ ((c : Int) = -1) by omega]

/-! ### What a choice makes -/
def stp (p : GProgram) (x : GPlace) (c : Int) : ByteArray × GPlace :=
  if c = -1 then match x.opn.getLast? with
    | some [a, b] => ((lk p a b).act.extract 1 (lk p a b).act.size, ⟨a, (lk p a b).to, x.opn.dropLast⟩)
    | _ => (⟨#[]⟩, x)
  else if (lk p x.module c).act.size = 2 then ((lk p x.module c).act.extract 0 1, ⟨(lk p x.module c).mdl, 0, x.opn ++ [[x.module, c]]⟩)
  else ((lk p x.module c).act, ⟨x.module, (lk p x.module c).to, x.opn⟩)
theorem okL_at {p : GProgram} (hp : okProgram p = true) {m c : Nat} (hm : m < p.modules.length) (hc : c < (md p m).links.length) : okLink p.modules.length (md p m).nodes (lk p m c) = true := by
  have := (okM_facts (okP_md hp hm)).2.2 (lk p m c) (by rw [← lk_at hc]; exact List.getElem_mem _)
  exact this
theorem okL_facts {n k : Int} {l : GLink} (h : okLink n k l = true) : (0 ≤ l.mdl ∧ l.mdl ≤ n - 1) ∧ (l.act.size = 1 ∨ l.act.size = 2) := by
  simp only [okLink, inR, Bool.and_eq_true, Bool.or_eq_true, decide_eq_true_eq] at h
  refine ⟨h.1.2, ?_⟩
  rcases h.2 with h2 | ⟨h2, _⟩
  · exact .inr (isBrk_size h2)
  · left
    simp only [isLet, Bool.or_eq_true, decide_eq_true_eq] at h2
    rcases h2 with h2 | h2 <;> rw [h2] <;> rfl
/-- The state of the reference's run. -/
@[simp] abbrev encO (o : List Int) : PV := .list 1 (o.map Enc.pv) true
@[simp] abbrev stL (x : GPlace) : List AObj := [.row 3 [.agg [i64 x.module, i64 x.node, .own 1 0 0 x.opn.length]] 0, .row 1 (x.opn.map encO) 0]
theorem bels_encO (n : Nat) : ∀ op : List (List Int), PV.bels n (op.map encO) = true
  | [] => rfl
  | o :: op => by simp only [List.map_cons, PV.bels, bels_encO n op, Bool.and_true]; rfl
theorem nvRow_encO (σ : List AObj) (n : Nat) (op : List (List Int)) : nvRow σ n (op.map encO) = op.map encO := by simp [nvRow, bels_encO]
theorem nvRow_encO1 (σ : List AObj) (n : Nat) (op : List (List Int)) (l : List PV) (b : Bool) : nvRow σ n (op.map encO ++ [.list 1 l b]) = op.map encO ++ [.list 1 l b] := by simp [nvRow, bels_append, bels_encO, PV.bels]
theorem nvRow_st (σ : List AObj) (m nd : Int) (v k : Nat) : nvRow σ 2 [.agg [i64 m, i64 nd, .own 1 v 0 k]] = [.agg [i64 m, i64 nd, .own 1 v 0 k]] := by simp [nvRow, PV.bels, PV.bel, PV.nv, PV.nvs]
set_option maxHeartbeats 4000000 in
theorem ev_spec_l07Make_back {p : GProgram} (hp : okProgram p = true) (m nd : Int) (op : List (List Int)) (a b : Nat) (ha : a < p.modules.length) (hb : b < (md p a).links.length) (hk : op.length ≤ 1000) :
    ev fns i_spec_l07Make [PgP p, .ptr 0 0 0 0, i64 (-1)] (stL ⟨m, nd, op ++ [[(a : Int), (b : Int)]]⟩) = some (str ((lk p a b).act.extract 1 (lk p a b).act.size), [.row 3 [.agg [i64 a, i64 (lk p a b).to, .own 1 0 0 op.length]] 0, .row 1 ((op ++ [[(a : Int), (b : Int)]]).map encO) 0]) := by
  refine go_spec_l07Make (by simp) ?_
  have e1 := md_at ha
  have e2 := lk_at hb
  have w := wrap_i64 (n := (op.length : Int) + 1 - 1) (by omega)
  have hf := okL_facts (okL_at hp ha hb)
  have hs : (1 : Int) ≤ (lk p a b).act.size := by omega
  have hs2 : 1 ≤ (lk p a b).act.size := by omega
  simp at w
  have hl := show (op.length : Int) < (op.length : Int) + 1 by omega
  have n1 := nvRow_encO1
  have n2 := nvRow_st
  simp at n1 n2
  simp [ac_spec_l07Make, n1, n2, bels_encO, w, hl, ha, e1, hb, e2, hs, hs2, setCells]

set_option maxHeartbeats 4000000 in
theorem ev_spec_l07Make_in {p : GProgram} (hp : okProgram p = true) (m : Nat) (nd : Int) (op : List (List Int)) (c : Nat) (hm : m < p.modules.length) (hc : c < (md p m).links.length) (ha : (lk p m c).act.size = 1) :
    ev fns i_spec_l07Make [PgP p, .ptr 0 0 0 0, i64 c] (stL ⟨m, nd, op⟩) = some (str (lk p m c).act, stL ⟨m, (lk p m c).to, op⟩) := by
  refine go_spec_l07Make (by simp) ?_
  have e1 := md_at hm
  have e2 := lk_at hc
  have n2 := nvRow_st
  simp at n2
  simp [ac_spec_l07Make, n2, nvRow_encO, bels_encO, hm, e1, hc, e2, ha, setCells, show ¬ ((c : Int) = -1) by omega]
set_option maxHeartbeats 4000000 in
theorem ev_spec_l07Make_push {p : GProgram} (hp : okProgram p = true) (m : Nat) (nd : Int) (op : List (List Int)) (c : Nat) (hm : m < p.modules.length) (hc : c < (md p m).links.length) (ha : (lk p m c).act.size = 2) (hk : op.length ≤ 1000) :
    ev fns i_spec_l07Make [PgP p, .ptr 0 0 0 0, i64 c] (stL ⟨m, nd, op⟩) = some (str ((lk p m c).act.extract 0 1), [.row 3 [.agg [i64 (lk p m c).mdl, i64 0, .own 1 1 0 (op.length + 1)]] 0, .row 1 ((op ++ [[(m : Int), (c : Int)]]).map encO) 1]) := by
  refine go_spec_l07Make (by simp) ?_
  have e1 := md_at hm
  have e2 := lk_at hc
  have n2 := nvRow_st
  have n1 := nvRow_encO1
  simp at n2 n1
  have hs : (1 : Int) ≤ (lk p m c).act.size := by omega
  have hs2 : 1 ≤ (lk p m c).act.size := by omega
  have b1 : (op.length + 1) * 24 ≤ 140737488355328 := by omega
  have b2 : op.length + 1 ≤ 140737488355328 := by omega
  simp [ac_spec_l07Make, n1, n2, nvRow_encO, bels_encO, bels_append, hm, e1, hc, e2, ha, hs, hs2, b1, b2, setCells, show ¬ ((c : Int) = -1) by omega]

theorem stp_ok {p : GProgram} (hp : okProgram p = true) {k : Nat} {x : GPlace} (hx : PlI p k x) {c : Int} (hc : canL p x c = true) : PlI p (k + 1) (stp p x c).2 ∧ (stp p x c).1.size ≤ 2 := by
  obtain ⟨m, nd, op⟩ := x
  obtain ⟨m, rfl⟩ := Int.eq_ofNat_of_zero_le hx.md.1
  have hm : m < p.modules.length := by have := hx.md.2; simp at this; omega
  have hl := hx.len
  have ho := hx.opn
  simp only at hl ho
  unfold canL at hc
  unfold stp
  by_cases h : c = -1
  · rw [if_pos h] at hc ⊢
    simp only [Bool.and_eq_true, decide_eq_true_eq] at hc
    rcases List.eq_nil_or_concat op with rfl | ⟨op, o, rfl⟩
    · simp at hc
    rw [List.concat_eq_append] at *
    obtain ⟨a, b, rfl, ha, hb⟩ := ho o (by simp)
    have hf := okL_facts (okL_at hp ha hb)
    simp only [List.getLast?_concat, List.dropLast_concat]
    refine ⟨⟨⟨by simp, by simp; omega⟩, fun o h => ho o (by simp at h ⊢; exact .inl h), by simp at hl ⊢; omega⟩, ?_⟩
    rw [ByteArray.size_extract]; omega
  · rw [if_neg h] at hc ⊢
    simp only [inR, Bool.and_eq_true, decide_eq_true_eq] at hc
    obtain ⟨c, rfl⟩ := Int.eq_ofNat_of_zero_le hc.1.1
    have hcl : c < (md p m).links.length := by omega
    have hf := okL_facts (okL_at hp hm hcl)
    by_cases h2 : (lk p m c).act.size = 2
    · rw [if_pos h2]
      refine ⟨⟨⟨hf.1.1, by simp only; omega⟩, fun o h => ?_, by simp at hl ⊢; omega⟩, ?_⟩
      · simp only [List.mem_append, List.mem_singleton] at h
        rcases h with h | rfl
        · exact ho o h
        · exact ⟨m, c, rfl, hm, hcl⟩
      · rw [ByteArray.size_extract]; omega
    · rw [if_neg h2]
      exact ⟨⟨⟨by simp, by simp; omega⟩, ho, by simp only; omega⟩, by simp only; omega⟩
theorem mapO_encO (σ : List AObj) (d : Nat) : ∀ op : List (List Int), mapO (dfr σ (d + 1)) (op.map encO) = some (op.map encO)
  | [] => rfl
  | o :: op => by simp only [List.map_cons, mapO, mapO_encO σ d op]; simp [dfr]
theorem dfr_stL (x : GPlace) (hl : x.opn.length ≤ 1000) : mapO (dfr (stL x) 9) [.ptr 0 0 0 0] = some [.fptr [i64 x.module, i64 x.node, .list 1 (x.opn.map encO) false] 0] := by
  have h := mapO_encO (stL x) 6 x.opn
  have hl2 : x.opn.length ≤ 140737488355328 := by omega
  have ht : List.take x.opn.length (x.opn.map encO) = x.opn.map encO := List.take_of_length_le (by simp)
  simp at h ht
  simp [mapO, dfr, h, hl2, ht]
theorem callN_can {p : GProgram} (hp : okProgram p = true) {k : Nat} (hk : k ≤ 1000) {x : GPlace} (hx : PlI p k x) (c : Int) :
    callN fns i_spec_l07Can [PgP p, .ptr 0 0 0 0, i64 c] (stL x) = some (bol (canL p x c), stL x) := by
  have h := dfr_stL x (by have := hx.len; omega)
  have h2 : mapO (dfr (stL x) 9) [PgP p, .ptr 0 0 0 0, i64 c] = some [PgP p, .fptr [i64 x.module, i64 x.node, .list 1 (x.opn.map encO) false] 0, i64 c] := by
    simp only [mapO] at h ⊢
    cases hd : dfr (stL x) 9 (.ptr 0 0 0 0) with
    | none => rw [hd] at h; simp at h
    | some q => rw [hd] at h; simp at h; subst h; simp [dfr]
  rw [callN_read h2 (ev_spec_l07Can hp hk hx _ _ (by simp) c) ⟨rfl, rfl⟩]
  simp [behind, PV.sh]

/-- Choices, made one after the other. -/
def runF (p : GProgram) (s : ByteArray × GPlace) (c : Int) : (ByteArray × GPlace) ⊕ GPlace :=
  if canL p s.2 c = true then .inl (s.1 ++ (stp p s.2 c).1, (stp p s.2 c).2) else .inr s.2
def runP (p : GProgram) (cs : List Int) : ByteArray × GPlace × Int :=
  if okProgram p = true then
    if cs.length ≤ 200 then match tryFold (runF p) (⟨#[]⟩, ⟨0, 0, []⟩) cs with
      | .inl s => (s.1, s.2, 0)
      | .inr x => (⟨#[]⟩, x, 4)
    else (⟨#[]⟩, ⟨0, 0, []⟩, 2)
  else (⟨#[]⟩, ⟨0, 0, []⟩, 1)
def RnI (p : GProgram) (k : Nat) (s : ByteArray × GPlace) : Prop := PlI p k s.2 ∧ s.1.size ≤ 2 * k
theorem runF_ok {p : GProgram} (hp : okProgram p = true) {k : Nat} {s s' : ByteArray × GPlace} (h : RnI p k s) {c : Int} (hr : runF p s c = .inl s') : RnI p (k + 1) s' := by
  unfold runF at hr
  split at hr
  · rename_i hc
    injection hr with hr; subst hr
    obtain ⟨h1, h2⟩ := stp_ok hp h.1 hc
    exact ⟨h1, by have := h.2; rw [ByteArray.size_append]; omega⟩
  · cases hr
set_option maxHeartbeats 4000000 in
theorem ro_l07Run {p : GProgram} (hp : okProgram p = true) (cs : List Int) (hcs : cs.length ≤ 200) (ks : List KI) (k : Nat) (s : ByteArray × GPlace) (h : k < cs.length) (hi : RnI p k s) :
    (∀ s', runF p s cs[k] = .inl s' → rE fns fa_spec_l07Run 0 (.code lo_spec_l07Run_0 :: .inBlock 0 :: ks) [(9, i64 (k : Nat)), (8, str s.1), (7, .ptr 0 0 0 0), (1, lst 1 cs), (0, PgP p)] (stL s.2) =
        rE fns fa_spec_l07Run 0 (.code lo_spec_l07Run_0 :: .inBlock 0 :: ks) [(9, i64 ((k + 1 : Nat) : Int)), (8, str s'.1), (7, .ptr 0 0 0 0), (1, lst 1 cs), (0, PgP p)] (stL s'.2)) ∧
    (∀ x, runF p s cs[k] = .inr x → rE fns fa_spec_l07Run 0 (.code lo_spec_l07Run_0 :: .inBlock 0 :: ks) [(9, i64 (k : Nat)), (8, str s.1), (7, .ptr 0 0 0 0), (1, lst 1 cs), (0, PgP p)] (stL s.2) =
        some (.tup [str ⟨#[]⟩, .fptr [i64 x.module, i64 x.node, .list 1 (x.opn.map encO) false] 0, i64 4], [])) := by
  obtain ⟨out, x⟩ := s
  have hx := hi.1
  have hsz := hi.2
  simp only at hx hsz
  have hcan := callN_can hp (by omega) hx cs[k]
  have hw := wrap_i64 (n := k + 1) (by omega)
  unfold runF
  cases hc : canL p x cs[k]
  · rw [hc] at hcan
    refine ⟨fun s' h => by simp [hc] at h, fun y h => ?_⟩
    simp [hc] at h
    subst h
    have hl2 : x.opn.length ≤ 140737488355328 := by have := hx.len; omega
    have m6 : ∀ σ, mapO (dfr σ 6) (x.opn.map encO) = some (x.opn.map encO) := fun σ => mapO_encO σ 5 _
    have ht : List.take x.opn.length (x.opn.map encO) = x.opn.map encO := List.take_of_length_le (by simp)
    rw [l_spec_l07Run_0]
    simp [-callN] at hcan m6 ht
    simp [-callN, lb_spec_l07Run_0, h, hcan, bels_encO, dfr, mapO, m6, ht, hl2]
  · rw [hc] at hcan
    refine ⟨fun s' h => ?_, fun y h => by simp [hc] at h⟩
    simp [hc] at h
    subst h
    have key : (∃ v, ev fns i_spec_l07Make [PgP p, .ptr 0 0 0 0, i64 cs[k]] (stL x) = some (str (stp p x cs[k]).1, [.row 3 [.agg [i64 (stp p x cs[k]).2.module, i64 (stp p x cs[k]).2.node, .own 1 v 0 (stp p x cs[k]).2.opn.length]] 0, .row 1 (((stp p x cs[k]).2.opn.map encO)) v])) ∨
        (∃ l, ev fns i_spec_l07Make [PgP p, .ptr 0 0 0 0, i64 cs[k]] (stL x) = some (str (stp p x cs[k]).1, [.row 3 [.agg [i64 (stp p x cs[k]).2.module, i64 (stp p x cs[k]).2.node, .own 1 0 0 (stp p x cs[k]).2.opn.length]] 0, .row 1 (((stp p x cs[k]).2.opn.map encO) ++ [.list 1 l true]) 0])) := by
      generalize cs[k] = c at *
      obtain ⟨m, nd, op⟩ := x
      obtain ⟨m, rfl⟩ := Int.eq_ofNat_of_zero_le hx.md.1
      have hm : m < p.modules.length := by have := hx.md.2; simp at this; omega
      have hlo := hx.len
      have ho := hx.opn
      simp only at hlo ho
      unfold canL at hc
      unfold stp
      by_cases h1 : c = -1
      · subst h1
        simp only [if_true, Bool.and_eq_true, decide_eq_true_eq] at hc ⊢
        rcases List.eq_nil_or_concat op with rfl | ⟨op, o, rfl⟩
        · simp at hc
        rw [List.concat_eq_append] at *
        obtain ⟨a, b, rfl, ha, hb⟩ := ho o (by simp)
        simp only [List.getLast?_concat, List.dropLast_concat]
        right
        refine ⟨[i64 a, i64 b], ?_⟩
        have := ev_spec_l07Make_back hp m nd op a b ha hb (by simp at hlo; omega)
        simpa using this
      · rw [if_neg h1] at hc
        simp only [if_neg h1]
        simp only [inR, Bool.and_eq_true, decide_eq_true_eq] at hc
        obtain ⟨c, rfl⟩ := Int.eq_ofNat_of_zero_le hc.1.1
        have hcl : c < (md p m).links.length := by omega
        have hf := okL_facts (okL_at hp hm hcl)
        left
        by_cases h2 : (lk p m c).act.size = 2
        · simp only [if_pos h2]
          refine ⟨1, ?_⟩
          have := ev_spec_l07Make_push hp m nd op c hm hcl h2 (by omega)
          simpa using this
        · simp only [if_neg h2]
          refine ⟨0, ?_⟩
          have := ev_spec_l07Make_in hp m nd op c hm hcl (by omega)
          simpa using this
    have h2 := (stp_ok hp hx hc).2
    rw [l_spec_l07Run_0]
    rcases key with ⟨v, hv⟩ | ⟨l, hv⟩
    · generalize stp p x cs[k] = r at *
      obtain ⟨a, y⟩ := r
      have ho : out.size + a.size ≤ 9223372036854775807 := by simp only at h2; omega
      simp [-callN] at hcan hv
      simp [-callN, lb_spec_l07Run_0, h, hcan, hv, hw, ho, bels_encO, nvRow_encO, nvRow, PV.bels, PV.bel, PV.nv, PV.nvs]
    · generalize stp p x cs[k] = r at *
      obtain ⟨a, y⟩ := r
      have ho : out.size + a.size ≤ 9223372036854775807 := by simp only at h2; omega
      simp [-callN] at hcan hv
      simp [-callN, lb_spec_l07Run_0, h, hcan, hv, hw, ho, bels_encO, bels_append, nvRow_encO, nvRow, PV.bels, PV.bel, PV.nv, PV.nvs]
set_option maxHeartbeats 4000000 in
theorem ev_spec_l07Run (p : GProgram) (cs : List Int) (hcs : cs.length ≤ 9223372036854775807) :
    ∃ O, ev fns i_spec_l07Run [PgP p, lst 1 cs] [] = some (.tup [str (runP p cs).1, .fptr [i64 (runP p cs).2.1.module, i64 (runP p cs).2.1.node, O] 0, i64 (runP p cs).2.2], []) ∧ ((runP p cs).2.2 = 0 → O = .list 1 ((runP p cs).2.1.opn.map encO) false) := by
  have h1 := ev_spec_l07Ok p
  unfold runP
  cases hp : okProgram p
  · rw [hp] at h1
    simp at h1
    refine ⟨.val (.slice none 0 0), go_spec_l07Run (by simp) ?_, by simp⟩
    simp [ac_spec_l07Run, h1, dfr, mapO]
  rw [hp] at h1
  simp at h1
  by_cases hl : cs.length ≤ 200
  · have key := fun ks => loop_try (F := fun k s => rE fns fa_spec_l07Run 0 (.code lo_spec_l07Run_0 :: .inBlock 0 :: ks) [(9, i64 (k : Nat)), (8, str s.1), (7, .ptr 0 0 0 0), (1, lst 1 cs), (0, PgP p)] (stL s.2)) (ls := cs) (f := runF p) (out := fun x => some (.tup [str ⟨#[]⟩, .fptr [i64 x.module, i64 x.node, .list 1 (x.opn.map encO) false] 0, i64 4], [])) (I := RnI p)
      (fun k s h hi => ⟨fun s' hr => ⟨(ro_l07Run hp cs hl ks k s h hi).1 s' hr, runF_ok hp hi hr⟩, fun x hr => (ro_l07Run hp cs hl ks k s h hi).2 x hr⟩) (s := (⟨#[]⟩, ⟨0, 0, []⟩)) ⟨⟨⟨by simp, by have := okP_len hp; simp; omega⟩, by simp, by simp⟩, by simp; rfl⟩
    simp only [if_true, if_pos hl]
    cases ht : tryFold (runF p) (⟨#[]⟩, ⟨0, 0, []⟩) cs with
    | inl s =>
      have k1 := fun ks => ((key ks).1 s ht).1
      have hi := ((key []).1 s ht).2
      obtain ⟨out, x⟩ := s
      have hl2 : x.opn.length ≤ 140737488355328 := by have := hi.1.len; simp at this; omega
      have m6 : ∀ σ, mapO (dfr σ 6) (x.opn.map encO) = some (x.opn.map encO) := fun σ => mapO_encO σ 5 _
      have htk : List.take x.opn.length (x.opn.map encO) = x.opn.map encO := List.take_of_length_le (by simp)
      refine ⟨_, go_spec_l07Run (by simp) ?_, fun _ => rfl⟩
      have k2 : ∀ ks, rE fns fa_spec_l07Run 0 (.code lo_spec_l07Run_0 :: .inBlock 0 :: ks) [(9, i64 (cs.length : Nat)), (8, str out), (7, .ptr 0 0 0 0), (1, lst 1 cs), (0, PgP p)] (stL x) = rE fns fa_spec_l07Run 0 ks [(8, str out), (7, .ptr 0 0 0 0)] (stL x) := by
        intro ks
        rw [l_spec_l07Run_0]
        simp [lb_spec_l07Run_0]
      simp [-callN] at k1 k2 m6 htk
      simp [ac_spec_l07Run, h1, hl, show ¬ 200 < cs.length by omega, show ¬ (200 : Int) < cs.length by omega, k1, k2, dfr, mapO, m6, htk, hl2, nvRow, PV.bels, PV.bel, PV.nv, PV.nvs, bels_encO]
    | inr x =>
      have k1 := fun ks => (key ks).2 x ht
      refine ⟨.list 1 (x.opn.map encO) false, go_spec_l07Run (by simp) ?_, fun h => by simp at h⟩
      simp [-callN] at k1
      simp [ac_spec_l07Run, h1, hl, show ¬ 200 < cs.length by omega, show ¬ (200 : Int) < cs.length by omega, k1, nvRow, PV.bels, PV.bel, PV.nv, PV.nvs]
  · simp only [if_true, if_neg hl]
    refine ⟨.val (.slice none 0 0), go_spec_l07Run (by simp) ?_, by simp⟩
    simp [ac_spec_l07Run, h1, show 200 < cs.length by omega, show (200 : Int) < cs.length by omega, dfr, mapO]

/-! ### The program -/
theorem ev_impl_exit {p : GProgram} (hp : okProgram p = true) {m : Nat} (hm : m < p.modules.length) : ev fns i_impl_Program_exit [p.v, i64 m] [] = some (i64 ((md p m).nodes - 1), []) := by
  refine go_impl_Program_exit (by simp) ?_
  have h1 := okM_facts (okP_md hp hm)
  have hw := wrap_i64 (n := (md p m).nodes - 1) (by omega)
  have e := md_at hm
  simp [ac_impl_Program_exit, hm, e, hw]
theorem ev_Index_Int64 (a : List Int) (v : Int) (ha : a.length ≤ 9223372036854775806) : ev fns i_slices_Index_L_int64 [lst 1 a, i64 v] [] = some (i64 (ixOf (fun x => decide (v = x)) a), []) := by
  refine go_slices_Index_L_int64 (by simp) ?_
  have lo := loop_ix (F := fun k => rE fns fa_slices_Index_L_int64 0 [.code lo_slices_Index_L_int64_0, .inBlock 0, .code (.ghost (.kill [0, 1, 7, 8]) (.seq (.reg [⟨(some 4), .op (.mv (.const (Value.int .i64 (-1)))), none⟩]) .ret))] [(8, i64 (k : Nat)), (7, i64 a.length), (1, i64 v), (0, lst 1 a)] [])
    (a := a) (p := fun x => decide (v = x)) (e := some (i64 (-1), [])) (r := fun i => some (i64 (i : Nat), []))
    (fun k h => by
      have hw := wrap_i64 (n := k + 1) (by omega)
      refine ⟨fun hp => ?_, fun hp => ?_⟩
      · simp at hp
        rw [l_slices_Index_L_int64_0]
        simp [lb_slices_Index_L_int64_0, h, hp, hw]
      · simp at hp
        rw [l_slices_Index_L_int64_0]
        simp [lb_slices_Index_L_int64_0, h, hp])
    (by
      rw [l_slices_Index_L_int64_0]
      simp [lb_slices_Index_L_int64_0])
  simp at lo
  simp [ac_slices_Index_L_int64, lo]
  unfold ixOf
  cases firstIx (fun x => decide (v = x)) a <;> simp
theorem ev_Contains_Int64 (a : List Int) (v : Int) (ha : a.length ≤ 9223372036854775806) : ev fns i_slices_Contains_L_int64 [lst 1 a, i64 v] [] = some (bol (a.contains v), []) := by
  refine go_slices_Contains_L_int64 (by simp) ?_
  have h := ev_Index_Int64 a v ha
  have h2 := ixOf_any (fun x => decide (v = x)) a
  have h3 : (a.any fun x => decide (v = x)) = a.contains v := by
    rw [List.contains_eq_any_beq]; congr 1
  simp at h
  simp [ac_slices_Contains_L_int64, h]
  have h4 := h2.trans h3
  rw [Bool.eq_iff_iff] at h4
  simpa using h4
theorem ev_Clip (xs : List PV) (b : Bool) : ev fns i_slices_Clip_L_L_int64 [.list 1 xs b] [] = some (.list 1 xs true, []) := by
  refine go_slices_Clip_L_L_int64 (by simp) ?_
  simp [ac_slices_Clip_L_L_int64]

set_option maxHeartbeats 4000000 in
theorem ro_choices {p : GProgram} {m : Nat} (nd : Int) (hm : m < p.modules.length) (hl : (md p m).links.length ≤ 12) (q : PV) (ks : List KI) (k : Nat) (s : List Int) (h : k < (md p m).links.length) (hs : s.length ≤ 1 + k) :
    rE fns fa_impl_Program_choices 0 (.code lo_impl_Program_choices_0 :: .inBlock 0 :: ks) [(33, i64 (k : Nat)), (32, i64 (md p m).links.length), (31, lst 4 (md p m).links), (5, .own 0 0 0 s.length), (3, .fptr [i64 m, i64 nd, q] 0)] [.row 1 (s.map Enc.pv) 0] =
      rE fns fa_impl_Program_choices 0 (.code lo_impl_Program_choices_0 :: .inBlock 0 :: ks) [(33, i64 ((k + 1 : Nat) : Int)), (32, i64 (md p m).links.length), (31, lst 4 (md p m).links), (5, .own 0 0 0 (if (lk p m k).frm = nd then s ++ [(k : Int)] else s).length), (3, .fptr [i64 m, i64 nd, q] 0)] [.row 1 ((if (lk p m k).frm = nd then s ++ [(k : Int)] else s).map Enc.pv) 0] := by
  have e2 := lk_at h
  have hw := wrap_i64 (n := k + 1) (by omega)
  have b1 : (s.length + 1) * 8 ≤ 140737488355328 := by omega
  rw [l_impl_Program_choices_0]
  by_cases hf : (lk p m k).frm = nd
  · simp [lb_impl_Program_choices_0, h, e2, hf, hw, b1, nvRow, PV.bels, setCells]
  · simp [lb_impl_Program_choices_0, h, e2, hf, hw, nvRow, PV.bels, setCells]
set_option maxHeartbeats 4000000 in
theorem ev_impl_choices {p : GProgram} (hp : okProgram p = true) {k : Nat} (hk : k ≤ 1000) {x : GPlace} (hx : PlI p k x) :
    ev fns i_impl_Program_choices [p.v, x.v] [] = some (.own 0 0 0 (chs p x).length, [.row 1 ((chs p x).map Enc.pv) 0]) := by
  obtain ⟨m, nd, op⟩ := x
  obtain ⟨m, rfl⟩ := Int.eq_ofNat_of_zero_le hx.md.1
  have hm : m < p.modules.length := by have := hx.md.2; simp at this; omega
  have e := md_at hm
  have h1 := okM_facts (okP_md hp hm)
  have he := ev_impl_exit hp hm
  have hlen := hx.len
  simp at he hlen
  have lo := fun q ks (s : List Int) (hs : s.length ≤ 1) => (loop_nfold (F := fun k s => rE fns fa_impl_Program_choices 0 (.code lo_impl_Program_choices_0 :: .inBlock 0 :: ks) [(33, i64 (k : Nat)), (32, i64 (md p m).links.length), (31, lst 4 (md p m).links), (5, .own 0 0 0 s.length), (3, .fptr [i64 m, i64 nd, q] 0)] [.row 1 (s.map Enc.pv) 0])
    (n := (md p m).links.length) (f := fun (s : List Int) (k : Nat) => if (lk p m k).frm = nd then s ++ [(k : Int)] else s) (I := fun k s => s.length ≤ 1 + k)
    (fun k s h hs => ⟨ro_choices nd hm h1.2.1 q ks k s h hs, by split <;> (try simp) <;> omega⟩) (s := s) (by simpa using hs)).1
  have l2 := fun q ks (s : List Int) => (show rE fns fa_impl_Program_choices 0 (.code lo_impl_Program_choices_0 :: .inBlock 0 :: ks) [(33, i64 ((md p m).links.length : Nat)), (32, i64 (md p m).links.length), (31, lst 4 (md p m).links), (5, .own 0 0 0 s.length), (3, .fptr [i64 m, i64 nd, q] 0)] [.row 1 (s.map Enc.pv) 0] = rE fns fa_impl_Program_choices 0 ks [(5, .own 0 0 0 s.length)] [.row 1 (s.map Enc.pv) 0] by
    rw [l_impl_Program_choices_0]
    simp [lb_impl_Program_choices_0])
  refine go_impl_Program_choices (by show 2 ≤ 49; omega) ?_
  unfold chs
  cases hc : canL p ⟨m, nd, op⟩ (-1)
  · have lo := fun q ks => lo q ks [] (by simp)
    simp only [Bool.false_eq_true, if_false]
    generalize List.foldl _ _ _ = z at lo ⊢
    have hc2 := hc
    simp only [canL, if_true, Bool.and_eq_false_iff, decide_eq_false_iff_not] at hc2
    simp at lo l2
    by_cases ho : 0 < op.length
    · have hc3 : ¬ nd = (md p m).nodes - 1 := by rcases hc2 with h | h; exact h; exact absurd ho h
      simp [ac_impl_Program_choices, hm, e, he, ho, hc3, lo, l2, nvRow, PV.bels]
    · simp [ac_impl_Program_choices, hm, e, he, ho, lo, l2, nvRow, PV.bels]
  · have lo := fun q ks => lo q ks [-1] (by simp)
    simp only [if_true]
    generalize List.foldl _ _ _ = z at lo ⊢
    have hc2 := hc
    simp only [canL, if_true, Bool.and_eq_true, decide_eq_true_eq] at hc2
    simp at lo l2
    simp [ac_impl_Program_choices, hm, e, he, eq_true hc2.1, hc2.2, lo, l2, nvRow, PV.bels]
theorem mapO_self {f : PV → Option PV} : ∀ {l : List PV}, (∀ p ∈ l, f p = some p) → mapO f l = some l
  | [], _ => rfl
  | p :: l, h => by simp only [mapO, h p (by simp), mapO_self (l := l) fun q hq => h q (by simp [hq])]
set_option maxHeartbeats 8000000 in
theorem ev_impl_choose {p : GProgram} (hp : okProgram p = true) {k : Nat} (hk : k ≤ 1000) {x : GPlace} (hx : PlI p k x) {c : Int} (hc : canL p x c = true) :
    ev fns i_impl_Program_choose [p.v, x.v, i64 c] [] = some (.tup [(stp p x c).2.v, str (stp p x c).1], []) := by
  obtain ⟨m, nd, op⟩ := x
  obtain ⟨m, rfl⟩ := Int.eq_ofNat_of_zero_le hx.md.1
  have hm : m < p.modules.length := by have := hx.md.2; simp at this; omega
  have e := md_at hm
  have hlo := hx.len
  have ho := hx.opn
  simp only at hlo ho
  unfold canL at hc
  unfold stp
  refine go_impl_Program_choose (by show 3 ≤ 85; omega) ?_
  by_cases h1 : c = -1
  · subst h1
    simp only [if_true, Bool.and_eq_true, decide_eq_true_eq] at hc ⊢
    rcases List.eq_nil_or_concat op with rfl | ⟨op, o, rfl⟩
    · simp at hc
    rw [List.concat_eq_append] at *
    obtain ⟨a, b, rfl, ha, hb⟩ := ho o (by simp)
    simp only [List.getLast?_concat, List.dropLast_concat]
    have e1 := md_at ha
    have e2 := lk_at hb
    have w := wrap_i64 (n := (op.length : Int) + 1 - 1) (by simp at hlo; omega)
    have hf := okL_facts (okL_at hp ha hb)
    have hs : (1 : Int) ≤ (lk p a b).act.size := by omega
    have hs2 : 1 ≤ (lk p a b).act.size := by omega
    have hl := show (op.length : Int) < (op.length : Int) + 1 by omega
    simp at w
    simp [ac_impl_Program_choose, w, hl, ha, e1, hb, e2, hs, hs2, setCells, nvRow, PV.bels]
  · rw [if_neg h1] at hc
    simp only [if_neg h1]
    simp only [inR, Bool.and_eq_true, decide_eq_true_eq] at hc
    obtain ⟨c, rfl⟩ := Int.eq_ofNat_of_zero_le hc.1.1
    have hcl : c < (md p m).links.length := by omega
    have e2 := lk_at hcl
    have hf := okL_facts (okL_at hp hm hcl)
    have hs : (1 : Int) ≤ (lk p m c).act.size := by omega
    have hs2 : 1 ≤ (lk p m c).act.size := by omega
    have hcal : ∀ l : GLink, ev fns i_impl_Link_isCallLink [l.v] [] = some (bol (decide (l.act.size = 2)), []) := fun l => by
      refine go_impl_Link_isCallLink (by simp) ?_
      simp [ac_impl_Link_isCallLink]
      omega
    have hcl2 := hcal (lk p m c)
    by_cases h2 : (lk p m c).act.size = 2
    · simp only [if_pos h2]
      have hclip := ev_Clip
      have b1 : (op.length + 1) * 24 ≤ 140737488355328 := by omega
      have b2 : op.length ≤ 140737488355327 := by omega
      have m6 : ∀ σ, mapO (dfr σ 6) (op.map Enc.pv ++ [.list 1 [i64 m, i64 c] true]) = some (op.map Enc.pv ++ [.list 1 [i64 m, i64 c] true]) := fun σ => mapO_self fun q hq => by
        rcases List.mem_append.1 hq with hq | hq
        · obtain ⟨o, _, rfl⟩ := List.mem_map.1 hq; rfl
        · simp at hq; subst hq; rfl
      simp [h2] at hcl2 hclip m6
      simp [ac_impl_Program_choose, hm, e, hcl, e2, hs, hs2, h2, hcl2, hclip, b1, b2, m6, setCells, nvRow, PV.bels, show ¬ ((c : Int) = -1) by omega]
    · simp only [if_neg h2]
      simp [h2] at hcl2
      simp [ac_impl_Program_choose, hm, e, hcl, e2, hs, hs2, h2, hcl2, setCells, nvRow, PV.bels, show ¬ ((c : Int) = -1) by omega]
@[simp] abbrev shPl : Sh := .agg [.any, .any, .lst 1 (.lst 1 .any)]
@[simp] abbrev shPg : Sh := .agg [.lst 2 (.agg [.any, .lst 4 .any])]
@[simp] abbrev plQ (x : GPlace) (q : PV) : PV := .agg [i64 x.module, i64 x.node, q]
theorem cz_choices {p : GProgram} (hp : okProgram p = true) {k : Nat} (hk : k ≤ 1000) {x : GPlace} (hx : PlI p k x) {q : PV} (hq : PV.ty (.lst 1 (.lst 1 .any)) q = lst 1 x.opn) (hb : q.bel 0 = true) (σ : List AObj) :
    cz true (callV fns (ev fns)) (.val (.func (.func i_impl_Program_choices) #[] #[])) [p.v, plQ x q] σ = some (lst 1 (chs p x), σ) := by
  have h := ev_impl_choices hp hk hx
  have hl : (chs p x).length ≤ 140737488355328 := by
    have := okP_len hp
    rw [chs_eq]
    have h1 := List.length_filter_le (fun (k : Nat) => decide ((lk p x.module (k : Int)).frm = x.node)) (List.range (md p x.module).links.length)
    obtain ⟨m, hm⟩ := Int.eq_ofNat_of_zero_le hx.md.1
    have h2 := (okM_facts (okP_md hp (m := m) (by have := hx.md.2; omega))).2.1
    rw [← hm] at h2
    simp at h1
    split <;> simp <;> omega
  refine cz_made (r := (.own 0 0 0 (chs p x).length, [.row 1 ((chs p x).map Enc.pv) 0])) (by simp [PV.bels, PV.bel, hb]) ?_ (by simp [dfr, hl]) σ
  have ht : PV.tys [shPg, shPl] [p.v, plQ x q] = [p.v, x.v] := by
    have := congrFun ty_Program p
    simp only [Function.comp] at this
    simp [PV.tys, hq]
  simp at h ht
  simp [callT, PV.bels, PV.bel, hb, ht, h, behind]
end Go.Proofs.Ytegjfjckijmgcaa
