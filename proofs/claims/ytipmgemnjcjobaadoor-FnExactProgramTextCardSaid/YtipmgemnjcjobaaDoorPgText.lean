/- The text of a program: the program's and the reference's; the law FnExactProgramText, run. -/
import Derived.Test.YtipmgemnjcjobaaDoorBld
import Derived.Test.YtipmgemnjcjobaaDoorValidProgram
set_option linter.unusedVariables false
set_option linter.unusedSimpArgs false
set_option maxRecDepth 100000
namespace Go.Proofs.YtipmgemnjcjobaaDoor
open Aw
abbrev spP : ByteArray := ⟨#[32]⟩
abbrev nlP : ByteArray := ⟨#[10]⟩
abbrev lkP : ByteArray := ⟨#[108, 105, 110, 107, 32]⟩
abbrev mdP : ByteArray := ⟨#[109, 111, 100, 117, 108, 101]⟩
/-- One more link. -/
def stepLink (b : ByteArray) (l : GLink) : ByteArray :=
  (if l.act.size = 2 then b ++ (lkP ++ decT l.frm.toNat ++ spP ++ decT l.to.toNat ++ spP ++ l.act) ++ (spP ++ decT l.mdl.toNat) else b ++ (lkP ++ decT l.frm.toNat ++ spP ++ decT l.to.toNat ++ spP ++ l.act)) ++ nlP
/-- One more module. -/
def stepMod (b : ByteArray) (m : GModule) : ByteArray := m.links.foldl stepLink (b ++ wordsT mdP [m.nodes])
def pgT (p : GProgram) : ByteArray := p.modules.foldl stepMod ⟨#[]⟩
def pgA (p : GProgram) : ByteArray := if okProgram p = true then pgT p else ⟨#[]⟩
structure LkOk (l : GLink) : Prop where
  frm : 0 ≤ l.frm ∧ l.frm < 100
  to : 0 ≤ l.to ∧ l.to < 100
  mdl : 0 ≤ l.mdl ∧ l.mdl < 100
  act : l.act.size = 1 ∨ l.act.size = 2
structure MdOk (m : GModule) : Prop where
  nodes : 0 ≤ m.nodes ∧ m.nodes < 100
  len : m.links.length ≤ 12
  links : ∀ l ∈ m.links, LkOk l
theorem isLet_size {s : ByteArray} (h : isLet s = true) : s.size = 1 := by
  unfold isLet at h
  simp only [Bool.or_eq_true, decide_eq_true_eq] at h
  rcases h with rfl | rfl <;> rfl
theorem okProgram_facts {p : GProgram} (h : okProgram p = true) : p.modules.length ≤ 4 ∧ ∀ m ∈ p.modules, MdOk m := by
  unfold okProgram at h
  simp only [Bool.and_eq_true, List.all_eq_true, inR, decide_eq_true_eq] at h
  obtain ⟨h1, h2⟩ := h
  refine ⟨by omega, fun m hm => ?_⟩
  have k := h2 m hm
  unfold okModule at k
  simp only [Bool.and_eq_true, List.all_eq_true, inR, decide_eq_true_eq] at k
  obtain ⟨⟨k1, k2⟩, k3⟩ := k
  refine ⟨by omega, k2, fun l hl => ?_⟩
  have q := k3 l hl
  unfold okLink at q
  simp only [Bool.and_eq_true, Bool.or_eq_true, inR, decide_eq_true_eq] at q
  obtain ⟨⟨⟨q1, q2⟩, q3⟩, q4⟩ := q
  refine ⟨by omega, by omega, by omega, ?_⟩
  rcases q4 with q4 | q4
  · exact .inr (isBrk_size q4)
  · exact .inl (isLet_size q4.1)
theorem stepLink_size {b : ByteArray} {l : GLink} (h : LkOk l) : (stepLink b l).size ≤ b.size + 20 := by
  have h1 := decT_size l.frm.toNat
  have h2 := decT_size l.to.toNat
  have h3 := decT_size l.mdl.toNat
  have h4 := h.act
  have q1 : spP.size = 1 := rfl
  have q2 : nlP.size = 1 := rfl
  have q3 : lkP.size = 5 := rfl
  unfold stepLink
  split <;> simp only [ByteArray.size_append] <;> omega
theorem foldLink_size : ∀ (ls : List GLink) (b : ByteArray), (∀ l ∈ ls, LkOk l) → (ls.foldl stepLink b).size ≤ b.size + 20 * ls.length
  | [], b, _ => by simp
  | l :: ls, b, h => by
    have h1 := foldLink_size ls (stepLink b l) fun x hx => h x (List.mem_cons_of_mem _ hx)
    have h2 := stepLink_size (b := b) (h l (List.mem_cons_self ..))
    simp only [List.foldl_cons, List.length_cons]; omega
theorem wordsT_size (n : Int) : (wordsT mdP [n]).size ≤ 10 := by
  have h1 := decT_size n.toNat
  have q1 : (⟨#[32]⟩ : ByteArray).size = 1 := rfl
  have q2 : (⟨#[10]⟩ : ByteArray).size = 1 := rfl
  have q3 : mdP.size = 6 := rfl
  simp only [wordsT, wordsL, List.foldl_cons, List.foldl_nil, ByteArray.size_append]
  omega
theorem stepMod_size {b : ByteArray} {m : GModule} (h : MdOk m) : (stepMod b m).size ≤ b.size + 1000 := by
  have h1 := foldLink_size m.links (b ++ wordsT mdP [m.nodes]) h.links
  have h2 := h.len
  have h3 := wordsT_size m.nodes
  unfold stepMod
  rw [ByteArray.size_append] at h1
  omega
theorem ev_isCallLink (l : GLink) : ev fns i_impl_Link_isCallLink [l.v] [] = some (bol (decide (l.act.size = 2)), []) := by
  refine go_impl_Link_isCallLink (by simp) ?_
  simp [ac_impl_Link_isCallLink]
  try omega
set_option maxHeartbeats 4000000 in
theorem lo_links (ls : List GLink) (hl : ls.length ≤ 12) (hv : ∀ l ∈ ls, LkOk l) (i n : Int) (ms : List GModule) (b0 : ByteArray) (hb : b0.size ≤ 100000) (ks : List KI) :
    rE fns fa_impl_ProgramText 0 (.code lo_impl_ProgramText_0 :: .inBlock 2 :: ks) [(27, i64 0), (26, i64 ls.length), (25, lst 4 ls), (14, i64 i), (13, i64 n), (12, lst 2 ms), (3, str b0)] [] =
      rE fns fa_impl_ProgramText 0 ks [(14, i64 i), (13, i64 n), (12, lst 2 ms), (3, str (ls.foldl stepLink b0))] [] := by
  have lo := loop_fold (F := fun k b => rE fns fa_impl_ProgramText 0 (.code lo_impl_ProgramText_0 :: .inBlock 2 :: ks) [(27, i64 (k : Nat)), (26, i64 ls.length), (25, lst 4 ls), (14, i64 i), (13, i64 n), (12, lst 2 ms), (3, str b)] []) (ls := ls) (f := stepLink) (fun k b => b.size ≤ 100000 + 20 * k)
    (fun k b hk hI => by
      have hlk := hv _ (List.getElem_mem hk)
      have hsz := stepLink_size (b := b) hlk
      refine ⟨?_, by omega⟩
      obtain ⟨l, hle⟩ : ∃ l, l = ls[k] := ⟨_, rfl⟩
      rw [← hle] at hlk hsz ⊢
      have hget : ls[k] = l := hle.symm
      have hc := ev_isCallLink l
      obtain ⟨⟨f1, f2⟩, ⟨t1, t2⟩, ⟨m1, m2⟩, hact⟩ := hlk
      obtain ⟨frm, to, act, mdl⟩ := l
      simp only at f1 f2 t1 t2 m1 m2 hact
      obtain ⟨x, rfl, hx⟩ : ∃ x : Nat, frm = x ∧ x < 100 := ⟨frm.toNat, by omega, by omega⟩
      obtain ⟨y, rfl, hy⟩ : ∃ x : Nat, to = x ∧ x < 100 := ⟨to.toNat, by omega, by omega⟩
      obtain ⟨z, rfl, hz⟩ : ∃ x : Nat, mdl = x ∧ x < 100 := ⟨mdl.toNat, by omega, by omega⟩
      have d1 := ev_decimal x hx
      have d2 := ev_decimal y hy
      have d3 := ev_decimal z hz
      have z1 := decT_size x
      have z2 := decT_size y
      have z3 := decT_size z
      have hwr := wrap_i64 (n := k + 1) (by omega)
      have q1 : spP.size = 1 := rfl
      have q2 : nlP.size = 1 := rfl
      have q3 : lkP.size = 5 := rfl
      have c1 : lkP.size + (decT x).size ≤ 9223372036854775807 := by omega
      have c2 : lkP.size + (decT x).size + spP.size ≤ 9223372036854775807 := by omega
      have c3 : lkP.size + (decT x).size + spP.size + (decT y).size ≤ 9223372036854775807 := by omega
      have c4 : lkP.size + (decT x).size + spP.size + (decT y).size + spP.size ≤ 9223372036854775807 := by omega
      have c5 : lkP.size + (decT x).size + spP.size + (decT y).size + spP.size + act.size ≤ 9223372036854775807 := by omega
      have c6 : b.size + (lkP.size + (decT x).size + spP.size + (decT y).size + spP.size + act.size) ≤ 9223372036854775807 := by omega
      have c7 : spP.size + (decT z).size ≤ 9223372036854775807 := by omega
      have c8 : b.size + (lkP.size + (decT x).size + spP.size + (decT y).size + spP.size + act.size) + (spP.size + (decT z).size) ≤ 9223372036854775807 := by omega
      have c9 : b.size + (lkP.size + (decT x).size + spP.size + (decT y).size + spP.size + act.size) + (spP.size + (decT z).size) + nlP.size ≤ 9223372036854775807 := by omega
      have c10 : b.size + (lkP.size + (decT x).size + spP.size + (decT y).size + spP.size + act.size) + nlP.size ≤ 9223372036854775807 := by omega
      rw [l_impl_ProgramText_0]
      simp at d1 d2 d3
      rcases hact with ha | ha
      · simp [ha] at hc
        rw [ha] at c5 c6 c10
        simp [lb_impl_ProgramText_0, hk, hget, hwr, d1, d2, d3, hc, ha, stepLink, nvRow, c1, c2, c3, c4, c5, c6, c10]
        done
      · simp [ha] at hc
        rw [ha] at c5 c6 c8 c9
        simp [lb_impl_ProgramText_0, hk, hget, hwr, d1, d2, d3, hc, ha, stepLink, nvRow, c1, c2, c3, c4, c5, c6, c7, c8, c9]
        done)
    (s := b0) (by omega)
  refine Eq.trans ?_ (lo.1.trans ?_)
  · rfl
  · rw [l_impl_ProgramText_0]
    simp [lb_impl_ProgramText_0]
    done
theorem lo_mods (ms : List GModule) (hl : ms.length ≤ 4) (hv : ∀ m ∈ ms, MdOk m) (ks : List KI) :
    rE fns fa_impl_ProgramText 0 (.code lo_impl_ProgramText_1 :: .inBlock 0 :: ks) [(14, i64 0), (13, i64 ms.length), (12, lst 2 ms), (3, str ⟨#[]⟩)] [] =
      rE fns fa_impl_ProgramText 0 ks [(3, str (ms.foldl stepMod ⟨#[]⟩))] [] := by
  have lo := loop_fold (F := fun k b => rE fns fa_impl_ProgramText 0 (.code lo_impl_ProgramText_1 :: .inBlock 0 :: ks) [(14, i64 (k : Nat)), (13, i64 ms.length), (12, lst 2 ms), (3, str b)] []) (ls := ms) (f := stepMod) (fun k b => b.size ≤ 1000 * k)
    (fun k b hk hI => by
      have hmk := hv _ (List.getElem_mem hk)
      have hsz := stepMod_size (b := b) hmk
      refine ⟨?_, by omega⟩
      obtain ⟨m, hme⟩ : ∃ m, m = ms[k] := ⟨_, rfl⟩
      rw [← hme] at hmk hsz ⊢
      have hget : ms[k] = m := hme.symm
      have hwr := wrap_i64 (n := k + 1) (by omega)
      have hw := ev_impl_words true mdP [m.nodes] (by decide) (by decide) (by simp) (fun x hx => by
        simp at hx; subst hx; exact hmk.nodes)
      have hws := wordsT_size m.nodes
      have lo := fun i n ms ks => lo_links m.links hmk.len hmk.links i n ms (b ++ wordsT mdP [m.nodes]) (by rw [ByteArray.size_append]; omega) ks
      rw [l_impl_ProgramText_1]
      obtain ⟨nodes, links⟩ := m
      simp at hw lo
      simp [lb_impl_ProgramText_1, hk, hget, hwr, hw, nvRow, lo, stepMod, show b.size + (wordsT mdP [nodes]).size ≤ 9223372036854775807 by simp only at hws; omega]
      done)
    (s := ⟨#[]⟩) (by decide)
  refine Eq.trans ?_ (lo.1.trans ?_)
  · rfl
  · rw [l_impl_ProgramText_1]
    simp [lb_impl_ProgramText_1]
    done
theorem ev_impl_ProgramText (p : GProgram) : ev fns i_impl_ProgramText [p.v] [] = some (str (pgA p), []) := by
  refine go_impl_ProgramText (by simp) ?_
  have hv := ev_impl_ValidProgram p
  unfold pgA
  cases c : okProgram p
  · rw [c] at hv
    simp at hv
    simp [ac_impl_ProgramText, hv]
    done
  · rw [c] at hv
    obtain ⟨h1, h2⟩ := okProgram_facts c
    have lo := lo_mods p.modules h1 h2
    simp at hv lo
    simp [ac_impl_ProgramText, hv, lo, pgT]
    done
theorem words_one (n : Nat) : wordsT mdP [(n : Int)] = (⟨#[109, 111, 100, 117, 108, 101, 32]⟩ : ByteArray) ++ decT n ++ nlP := by
  have e : (⟨#[109, 111, 100, 117, 108, 101, 32]⟩ : ByteArray) = mdP ++ spP := rfl
  rw [e]
  simp only [wordsT, wordsL, List.foldl_cons, List.foldl_nil, Int.toNat_natCast, ByteArray.append_assoc]
set_option maxHeartbeats 4000000 in
theorem lo_linksS (ls : List GLink) (hl : ls.length ≤ 12) (hv : ∀ l ∈ ls, LkOk l) (i : Nat) (ms : List GModule) (hi : i < ms.length) (hls : ms[i].links = ls) (b0 : ByteArray) (hb : b0.size ≤ 100000) (ks : List KI) :
    rE fns fa_spec_l07Text 0 (.code lo_spec_l07Text_0 :: .inBlock 2 :: ks) [(5, i64 0), (4, i64 i), (3, str b0), (0, .fptr [lst 2 ms] 0)] [] =
      rE fns fa_spec_l07Text 0 ks [(4, i64 i), (3, str (ls.foldl stepLink b0)), (0, .fptr [lst 2 ms] 0)] [] := by
  have lo := loop_fold (F := fun k b => rE fns fa_spec_l07Text 0 (.code lo_spec_l07Text_0 :: .inBlock 2 :: ks) [(5, i64 (k : Nat)), (4, i64 i), (3, str b), (0, .fptr [lst 2 ms] 0)] []) (ls := ls) (f := stepLink) (fun k b => b.size ≤ 100000 + 20 * k)
    (fun k b hk hI => by
      have hlk := hv _ (List.getElem_mem hk)
      have hsz := stepLink_size (b := b) hlk
      refine ⟨?_, by omega⟩
      obtain ⟨l, hle⟩ : ∃ l, l = ls[k] := ⟨_, rfl⟩
      rw [← hle] at hlk hsz ⊢
      have hget : ls[k] = l := hle.symm
      have hc := ev_spec_l07Inner l
      obtain ⟨⟨f1, f2⟩, ⟨t1, t2⟩, ⟨m1, m2⟩, hact⟩ := hlk
      obtain ⟨frm, to, act, mdl⟩ := l
      simp only at f1 f2 t1 t2 m1 m2 hact
      obtain ⟨x, rfl, hx⟩ : ∃ x : Nat, frm = x ∧ x < 100 := ⟨frm.toNat, by omega, by omega⟩
      obtain ⟨y, rfl, hy⟩ : ∃ x : Nat, to = x ∧ x < 100 := ⟨to.toNat, by omega, by omega⟩
      obtain ⟨z, rfl, hz⟩ : ∃ x : Nat, mdl = x ∧ x < 100 := ⟨mdl.toNat, by omega, by omega⟩
      have d1 := ev_Decimal x hx
      have d2 := ev_Decimal y hy
      have d3 := ev_Decimal z hz
      have z1 := decT_size x
      have z2 := decT_size y
      have z3 := decT_size z
      have hwr := wrap_i64 (n := k + 1) (by omega)
      have q1 : spP.size = 1 := rfl
      have q2 : nlP.size = 1 := rfl
      have q3 : lkP.size = 5 := rfl
      have c1 : lkP.size + (decT x).size ≤ 9223372036854775807 := by omega
      have c2 : lkP.size + (decT x).size + spP.size ≤ 9223372036854775807 := by omega
      have c3 : lkP.size + (decT x).size + spP.size + (decT y).size ≤ 9223372036854775807 := by omega
      have c4 : lkP.size + (decT x).size + spP.size + (decT y).size + spP.size ≤ 9223372036854775807 := by omega
      have c5 : lkP.size + (decT x).size + spP.size + (decT y).size + spP.size + act.size ≤ 9223372036854775807 := by omega
      have c6 : b.size + (lkP.size + (decT x).size + spP.size + (decT y).size + spP.size + act.size) ≤ 9223372036854775807 := by omega
      have c7 : spP.size + (decT z).size ≤ 9223372036854775807 := by omega
      have c8 : b.size + (lkP.size + (decT x).size + spP.size + (decT y).size + spP.size + act.size) + (spP.size + (decT z).size) ≤ 9223372036854775807 := by omega
      have c9 : b.size + (lkP.size + (decT x).size + spP.size + (decT y).size + spP.size + act.size) + (spP.size + (decT z).size) + nlP.size ≤ 9223372036854775807 := by omega
      have c10 : b.size + (lkP.size + (decT x).size + spP.size + (decT y).size + spP.size + act.size) + nlP.size ≤ 9223372036854775807 := by omega
      rw [l_spec_l07Text_0]
      simp at d1 d2 d3
      have hk2 : k < ms[i].links.length := by rw [hls]; exact hk
      have hget2 : ms[i].links[k] = ⟨x, y, act, z⟩ := by simp only [hls]; exact hget
      rcases hact with ha | ha
      · simp [ha] at hc
        rw [ha] at c5 c6 c10
        simp [lb_spec_l07Text_0, hk, hi, hls, hk2, hget2, hget, hwr, d1, d2, d3, hc, ha, stepLink, nvRow, c1, c2, c3, c4, c5, c6, c10]
        done
      · simp [ha] at hc
        rw [ha] at c5 c6 c8 c9
        simp [lb_spec_l07Text_0, hk, hi, hls, hk2, hget2, hget, hwr, d1, d2, d3, hc, ha, stepLink, nvRow, c1, c2, c3, c4, c5, c6, c7, c8, c9]
        done)
    (s := b0) (by omega)
  refine Eq.trans ?_ (lo.1.trans ?_)
  · rfl
  · rw [l_spec_l07Text_0]
    simp [lb_spec_l07Text_0, hi, hls]
    done
theorem lo_modsS (ms : List GModule) (hl : ms.length ≤ 4) (hv : ∀ m ∈ ms, MdOk m) (ks : List KI) :
    rE fns fa_spec_l07Text 0 (.code lo_spec_l07Text_1 :: .inBlock 0 :: ks) [(4, i64 0), (3, str ⟨#[]⟩), (0, .fptr [lst 2 ms] 0)] [] =
      rE fns fa_spec_l07Text 0 ks [(3, str (ms.foldl stepMod ⟨#[]⟩))] [] := by
  have lo := loop_fold (F := fun k b => rE fns fa_spec_l07Text 0 (.code lo_spec_l07Text_1 :: .inBlock 0 :: ks) [(4, i64 (k : Nat)), (3, str b), (0, .fptr [lst 2 ms] 0)] []) (ls := ms) (f := stepMod) (fun k b => b.size ≤ 1000 * k)
    (fun k b hk hI => by
      have hmk := hv _ (List.getElem_mem hk)
      have hsz := stepMod_size (b := b) hmk
      refine ⟨?_, by omega⟩
      obtain ⟨m, hme⟩ : ∃ m, m = ms[k] := ⟨_, rfl⟩
      have lo := fun ks => lo_linksS ms[k].links hmk.len hmk.links k ms hk rfl (b ++ wordsT mdP [ms[k].nodes]) (by have := wordsT_size ms[k].nodes; rw [ByteArray.size_append]; omega) ks
      rw [← hme] at hmk hsz lo ⊢
      have hget : ms[k] = m := hme.symm
      have hwr := wrap_i64 (n := k + 1) (by omega)
      have hws := wordsT_size m.nodes
      obtain ⟨⟨n0, n1⟩, -, -⟩ := hmk
      obtain ⟨nodes, links⟩ := m
      simp only at n0 n1 hws
      obtain ⟨x, rfl, hx⟩ : ∃ x : Nat, nodes = x ∧ x < 100 := ⟨nodes.toNat, by omega, by omega⟩
      have d1 := ev_Decimal x hx
      have z1 := decT_size x
      have q2 : nlP.size = 1 := rfl
      have q4 : (⟨#[109, 111, 100, 117, 108, 101, 32]⟩ : ByteArray).size = 7 := rfl
      have c1 : (⟨#[109, 111, 100, 117, 108, 101, 32]⟩ : ByteArray).size + (decT x).size ≤ 9223372036854775807 := by omega
      have c2 : (⟨#[109, 111, 100, 117, 108, 101, 32]⟩ : ByteArray).size + (decT x).size + nlP.size ≤ 9223372036854775807 := by omega
      have c3 : b.size + ((⟨#[109, 111, 100, 117, 108, 101, 32]⟩ : ByteArray).size + (decT x).size + nlP.size) ≤ 9223372036854775807 := by omega
      rw [l_spec_l07Text_1]
      rw [words_one] at lo
      simp at d1 lo
      simp [lb_spec_l07Text_1, hk, hget, hwr, d1, lo, stepMod, words_one, c1, c2, c3]
      done)
    (s := ⟨#[]⟩) (by decide)
  refine Eq.trans ?_ (lo.1.trans ?_)
  · rfl
  · rw [l_spec_l07Text_1]
    simp [lb_spec_l07Text_1]
    done
theorem ev_spec_ProgramText (p : GProgram) : ev fns i_spec_ProgramText [p.v] [] = some (str (pgA p), []) := by
  refine go_spec_ProgramText (by simp) ?_
  have hv := ev_spec_l07Ok p
  unfold pgA
  cases c : okProgram p
  · rw [c] at hv
    simp at hv
    simp [ac_spec_ProgramText, hv]
    done
  · rw [c] at hv
    obtain ⟨h1, h2⟩ := okProgram_facts c
    have ht : ev fns i_spec_l07Text [.fptr [lst 2 p.modules] 0] [] = some (str (pgT p), []) := by
      refine go_spec_l07Text (by simp) ?_
      have lo := lo_modsS p.modules h1 h2
      simp at lo
      simp [ac_spec_l07Text, lo, pgT]
      done
    simp at hv ht
    simp [ac_spec_ProgramText, hv, ht]
    done
theorem ev_FnExactProgramText (a : GProgram) (fa : Siz.fits a) : ev fns i_laws_FnExactProgramText [a.v] [] = some (bol true, []) := by
  refine go_laws_FnExactProgramText (by simp) ?_
  have e1 := ev_laws_szProgram a 1048576 (by omega) (by omega) fa
  by_cases c1 : (Siz.size a : Int) ≤ 1048576
  · rw [szR_ok c1] at e1
    have h1 := ev_laws_toProgram a (by omega)
    have h3 := ev_spec_ProgramText a
    have h4 := ev_impl_ProgramText a
    have h5 := ev_laws_eqProgram a a (by omega)
    simp [ac_laws_FnExactProgramText, e1, show ¬ ((1048576 : Int) - Siz.size a < 0) by omega, h1, h3, h4, h5]
    done
  · rw [szR_no (by omega)] at e1
    simp [ac_laws_FnExactProgramText, e1]
end Go.Proofs.YtipmgemnjcjobaaDoor
