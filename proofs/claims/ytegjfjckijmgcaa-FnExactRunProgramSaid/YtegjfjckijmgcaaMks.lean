/- Owned data of the laws' types: made, marked and held; printed by a program (mk.py). -/
import Derived.Test.YtegjfjckijmgcaaDat
import Derived.Test.YtegjfjckijmgcaaAw35
import Derived.Test.YtegjfjckijmgcaaMText
set_option linter.unusedVariables false
set_option linter.unusedSimpArgs false
set_option maxRecDepth 100000
namespace Go.Proofs.Ytegjfjckijmgcaa
open Aw

theorem own_one {α : Type} [Enc α] [Own α] {σ : List AObj} {ids : List Nat} {p : PV} {xs : List α} (h : Own.own σ ids p xs) : p.cells.length = 1 ∧ p.okc = true ∧ p.cells = [p] ∧ p.one = true := by
  rcases h with ⟨rfl, rfl, rfl⟩ | ⟨id, ver, es, is, rfl, _⟩ <;> simp [PV.cells, PV.okc, PV.one, Value.oneCell']
theorem PV.one_sh {p : PV} (k : Nat) (h : p.one = true) : (p.sh k).one = true := by
  cases p <;> simp_all [PV.one, PV.sh]
theorem PV.okc_sh {p : PV} {k : Nat} (h : p.okc = true) (hc : p.cells = [p]) : (p.sh k).okc = true := by
  cases p with
  | agg ps =>
    simp only [PV.cells] at hc
    have h1 : ps.length = 1 := by rw [hc]; rfl
    match ps, h1 with
    | [q], _ => simp at hc; have := congrArg SizeOf.sizeOf hc; simp at this; omega
  | _ => simp_all [PV.sh, PV.okc, PV.one]

instance : Own GLink := ⟨.any, 2, fun _ ids p x => ids = [] ∧ p = Enc.pv x, fun h _ => h, fun {σ ids p x} h d hd => by
  obtain ⟨d, rfl⟩ : ∃ e, d = e + 2 := ⟨d - 2, by omega⟩
  exact ⟨p, by rw [h.2]; exact PV.flat_dfr (Enc.flat x) σ d, by simp [h.2]⟩,
  fun {σ} τ {ids p x} h => ⟨by simp [h.1], by rw [h.2]; simp [PV.sh, PV.shs]⟩, fun h _ => by rw [h.2]; simp [PV.bel, PV.bels], fun h => by rw [h.2]; simp [PV.nl, PV.nls]⟩
theorem own_Link {σ : List AObj} {ids : List Nat} {p : PV} {x : GLink} : Own.own σ ids p x ↔ ids = [] ∧ p = x.v := Iff.rfl
instance : Flat GLink := ⟨fun {σ ids p x} => Iff.rfl⟩
theorem lo_laws_toLinkS (ls : List GLink) (hl : Siz.size ls ≤ 1048576) (ks : List KI) : ∀ suf pre, ls = pre ++ suf →
    rE fns fa_laws_toLinkS 0 (.code lo_laws_toLinkS_0 :: .inBlock 0 :: ks) [(4, i64 pre.length), (3, .own 0 0 0 ls.length), (0, lst 4 ls)] [.row 4 (pre.map Enc.pv ++ List.replicate suf.length (.agg [.val (.int .i64 0), .val (.int .i64 0), .val (.string ⟨#[]⟩), .val (.int .i64 0)])) 0] =
      rE fns fa_laws_toLinkS 0 ks [(3, .own 0 0 0 ls.length)] [.row 4 (ls.map Enc.pv) 0] := by
  have hl1 := Siz.len_le ls
  intro suf
  induction suf with
  | nil =>
    intro pre h
    simp at h; subst h
    rw [l_laws_toLinkS_0]
    simp [lb_laws_toLinkS_0]
  | cons x suf ih =>
    intro pre h
    rw [l_laws_toLinkS_0]
    have mm := mid h
    have m1 := mm.1
    have hw := wrap_i64 (n := pre.length + 1) (by omega)
    have hle : pre.length + (suf.length + 1) ≤ ls.length := by simp [h]
    have ce := ev_laws_toLink x (by have := Siz.mem_le (x := x) (xs := ls) (by simp [h]); omega)
    have ih := ih (pre ++ [x]) (by simp [h])
    simp at ih
    simp [lb_laws_toLinkS_0, mm.1, mm.2.2, hw, ce, List.replicate_succ, hle, ih]
theorem ev_laws_toLinkS (a : List GLink) (h : Siz.size a ≤ 1048576) : ev fns i_laws_toLinkS [lst 4 a] [] = some (.own 0 0 0 a.length, [.row 4 (a.map Enc.pv) 0]) := by
  have hl := Siz.len_le a
  refine go_laws_toLinkS (by simp) ?_
  have h1 : (a.length : Int) * 40 ≤ 281474976710656 ∧ (a.length : Int) * 32 ≤ 281474976710656 ∧ (a.length : Int) * 24 ≤ 281474976710656 ∧ (a.length : Int) * 16 ≤ 281474976710656 ∧ (a.length : Int) * 8 ≤ 281474976710656 ∧ (a.length : Int) ≤ 281474976710656 ∧ a.length ≤ 140737488355328 := by omega
  have lo := fun ks => lo_laws_toLinkS a h ks a [] rfl
  simp at lo
  simp [ac_laws_toLinkS, h1, lo]
theorem toC_LinkS : ToC (α := List GLink) fns i_laws_toLinkS Siz.size := by
  intro x hx
  have hl := Siz.len_le x
  exact ⟨_, _, [0], ev_laws_toLinkS x hx, ⟨own_flat x rfl (by omega), by simp, by simp⟩, ⟨by simp only [Good, List.length_singleton, objsBel, Bool.and_true]; exact bels_map _ _, by simp only [List.all_cons, List.all_nil, Bool.and_true, AObj.nl, PV.nls_iff]; intro p hp; obtain ⟨y, _, rfl⟩ := List.mem_map.1 hp; simp [PV.nl, PV.nls]⟩, by simp [PV.bel]⟩

def tl_laws_markLinkS : AC := (.ghost (.kill [0, 5]) (.seq (.post (.reg [⟨(some 41), .op (.mv (.tmp 1)), none⟩,
    ⟨(some 4), .op (.mv (.tmp 41)), none⟩]) (.kill [1, 41]))
  .ret))
theorem markC_LinkS : MarkC (α := List GLink) fns i_laws_markLinkS (fun xs : List GLink => 4 * xs.length) (mkF 4 (fun k => (⟨k, k + 1, mtext (k + 2), k + 3⟩ : GLink))) :=
  markC_flat 4 (fun k => (⟨k, k + 1, mtext (k + 2), k + 3⟩ : GLink)) (fun n0 id ver n i k σ => rE fns fa_laws_markLinkS n0 [.code lo_laws_markLinkS_0, .inBlock 0, .code tl_laws_markLinkS] [(5, i64 (i : Nat)), (1, i64 k), (0, .own id ver 0 n)] σ)
    (fun id ver n k σ r h => by
      refine go_laws_markLinkS (by simp) ?_
      simp [tl_laws_markLinkS] at h
      simp [ac_laws_markLinkS, h])
    (fun n0 id ver n i k σ xs h hlt h2 hn hb hk hk2 => by
      have hw := wrap_i64 (n := i + 1) (by omega)
      have w1 := wrap_i64 (n := k + 1) (by omega)
      have w2 := wrap_i64 (n := k + 2) (by omega)
      have w3 := wrap_i64 (n := k + 3) (by omega)
      have w4 := wrap_i64 (n := k + 4) (by omega)
      have v1 := wrap_i64 (n := k + 1 + 1) (by omega)
      have v2 := wrap_i64 (n := k + 2 + 1) (by omega)
      have v3 := wrap_i64 (n := k + 3 + 1) (by omega)
      have u1 : k + 1 + 1 = k + 2 := by omega
      have u2 : k + 2 + 1 = k + 3 := by omega
      have u3 : k + 3 + 1 = k + 4 := by omega
      have m2 := ev_laws_markText (k + 2) (by omega)
      simp at m2
      subst hn
      simp at h2
      have hset : ∀ r, (σ.set id r)[id]? = some r := fun r => List.getElem?_set_self hlt
      rw [l_laws_markLinkS_0]
      simp [lb_laws_markLinkS_0, h, hset, h2, hw, w1, w2, w3, w4, v1, u1, v2, u2, v3, u3, m2, setCells, List.map_set])
    (fun id ver n k σ hg => by
      unfold Good at hg
      rw [l_laws_markLinkS_0]
      simp [lb_laws_markLinkS_0, tl_laws_markLinkS, hg])
    (fun k σ hg => by
      unfold Good at hg
      refine go_laws_markLinkS (by simp) ?_
      simp [ac_laws_markLinkS, l_laws_markLinkS_0, lb_laws_markLinkS_0, hg])

def ownModule (σ : List AObj) (ids : List Nat) (p : PV) (x : GModule) : Prop := ∃ i0 p0 i1 p1, ids = i0 ++ i1 ∧ p = .agg [p0, p1] ∧ Own.own σ i0 p0 x.nodes ∧ Own.own σ i1 p1 x.links
instance : Own GModule := ⟨.agg [Own.sh (Int), Own.sh (List GLink)], max (Own.dep (Int)) (Own.dep (List GLink)) + 1, ownModule,
  fun {σ σ' ids p x} h k => by
    obtain ⟨i0, p0, i1, p1, rfl, rfl, h0, h1⟩ := h
    exact ⟨i0, p0, i1, p1, rfl, rfl, Own.frame h0 fun i hi => k i (by simp [hi]), Own.frame h1 fun i hi => k i (by simp [hi])⟩,
  fun {σ ids p x} h d hd => by
    obtain ⟨d, rfl⟩ : ∃ e, d = e + 1 := ⟨d - 1, by omega⟩
    obtain ⟨i0, p0, i1, p1, rfl, rfl, h0, h1⟩ := h
    obtain ⟨q0, e0, f0⟩ := Own.read h0 d (by omega)
    obtain ⟨q1, e1, f1⟩ := Own.read h1 d (by omega)
    refine ⟨.agg [q0, q1], by simp [dfr, mapO, e0, e1], ?_⟩
    simp only [PV.ty_agg, PV.tys, f0, f1]; rfl,
  fun {σ} τ {ids p x} h => by
    obtain ⟨i0, p0, i1, p1, rfl, rfl, h0, h1⟩ := h
    exact ⟨i0.map (· + τ.length), p0.sh τ.length, i1.map (· + τ.length), p1.sh τ.length, by simp, by simp [PV.sh, PV.shs], Own.shift τ h0, Own.shift τ h1⟩,
  fun {σ n ids p x} h k => by
    obtain ⟨i0, p0, i1, p1, rfl, rfl, h0, h1⟩ := h
    simp only [PV.bel, PV.bels, Own.bel h0 fun i hi => k i (by simp [hi]), Own.bel h1 fun i hi => k i (by simp [hi]), Bool.and_self],
  fun {σ ids p x} h => by
    obtain ⟨i0, p0, i1, p1, rfl, rfl, h0, h1⟩ := h
    simp only [PV.nl, PV.nls, Own.nl h0, Own.nl h1, Bool.and_self]⟩

theorem own_Module {σ : List AObj} {ids : List Nat} {p : PV} {x : GModule} : Own.own σ ids p x ↔ ownModule σ ids p x := Iff.rfl
theorem toC_Module : ToC (α := GModule) fns i_laws_toModule Siz.size := by
  intro x hx
  rw [size_Module] at hx
  obtain ⟨q1, σ1, d1, c1, o1, lo1, ⟨m1, x1⟩, z1, nl1, g1, n1⟩ := ToC.call toC_LinkS x.links (by omega) [] (by simp [objsBel]) (by simp)
  have w1 : ∀ r0 r1, OwnIn (r0 :: r1 :: σ1) d1 q1 x.links := fun r0 r1 => by
    exact o1 r0 r1
  have y1 : PV.bel (σ1.length + 1 + 1) q1 = true := by have := (w1 (.row 0 [] 0) (.row 0 [] 0)).bel; simpa using this
  have ln1 : σ1.length ≤ σ1.length := by exact Nat.le_refl _
  simp [-callN] at c1
  have kc1 := (own_one (o1 (.row 0 [] 0) (.row 0 [] 0)).own).2.2.1
  have ko1 := (own_one (o1 (.row 0 [] 0) (.row 0 [] 0)).own).2.1
  have kn1 := (own_one (o1 (.row 0 [] 0) (.row 0 [] 0)).own).2.2.2
  simp at kc1 ko1 kn1
  refine ⟨.agg [Enc.pv x.nodes, q1], .row 2 [.agg [Enc.pv x.nodes, q1]] 0 :: .row 2 [.agg [Enc.pv x.nodes, q1]] 0 :: σ1, [] ++ d1, ?_, ⟨⟨[], Enc.pv x.nodes, d1, q1, rfl, rfl, ⟨rfl, rfl⟩, (w1 _ _).own⟩, ?_, ?_⟩, ⟨?_, ?_⟩, ?_⟩
  · refine go_laws_toModule (by simp) ?_
    simp [-callN, ac_laws_toModule, c1, kc1, ko1, kn1, setCells, z1, y1, g1]
  · have a1 := (w1 (.row 0 [] 0) (.row 0 [] 0)).nd
    have b1 := (o1 (.row 0 [] 0) (.row 0 [] 0)).lt
    simp only [List.length_cons] at b1
    simp only [List.nodup_append, List.mem_append, List.nil_append, List.append_nil]
    grind
  · intro j hj
    have a1 := (w1 (.row 0 [] 0) (.row 0 [] 0)).nd
    have b1 := (o1 (.row 0 [] 0) (.row 0 [] 0)).lt
    simp only [List.length_cons] at b1
    simp only [List.mem_append, List.nil_append, List.append_nil] at hj
    simp only [List.length_cons]
    grind
  · simp [Good, objsBel, PV.bels, PV.bel, y1, g1]
  · have h := List.all_eq_true.1 n1
    simp [AObj.nl, PV.nls, PV.nl, nl1]
    exact h
  · simp [PV.bel, PV.bels, z1]

def tl_laws_toModuleS : AC := (.ghost (.kill [0, 4]) (.seq (.post (.reg [⟨(some 22), .op (.mv (.tmp 3)), none⟩,
    ⟨(some 2), .op (.mv (.tmp 22)), none⟩]) (.kill [3, 22]))
  .ret))
theorem toC_ModuleS : ToC (α := List GModule) fns i_laws_toModuleS Siz.size :=
  toC_listC (z := .agg [.val (.int .i64 0), .val (.slice none 0 0)]) (fun n => by simp [PV.bel, PV.bels]) (by simp [PV.nl, PV.nls]) toC_Module (fun x xs h hs => by have := Siz.mem_le h; omega) Siz.len_le (fun p => ∃ n r, p = .agg [i64 n, r] ∧ r.one = true)
    (fun xs i σ => rE fns fa_laws_toModuleS 0 [.code lo_laws_toModuleS_0, .inBlock 0, .code tl_laws_toModuleS] [(4, i64 i), (3, .own 0 0 0 xs.length), (0, lst 2 xs)] σ)
    (fun xs r hx h => by
      have hl := Siz.len_le xs
      refine go_laws_toModuleS (by simp) ?_
      have h1 : (xs.length : Int) * 40 ≤ 281474976710656 ∧ (xs.length : Int) * 32 ≤ 281474976710656 ∧ (xs.length : Int) * 72 ≤ 281474976710656 ∧ (xs.length : Int) * 24 ≤ 281474976710656 ∧ (xs.length : Int) * 16 ≤ 281474976710656 ∧ (xs.length : Int) * 8 ≤ 281474976710656 ∧ (xs.length : Int) ≤ 281474976710656 ∧ xs.length ≤ 140737488355328 := by omega
      simp [tl_laws_toModuleS] at h
      simp [ac_laws_toModuleS, h1, h])
    (fun xs i σ es q τ h hx h2 hl he hev hq1 => by
      have hll := Siz.len_le xs
      have hw := wrap_i64 (n := i + 1) (by omega)
      obtain ⟨ee, he1, he2⟩ := he
      subst he2
      obtain ⟨n0, r0, rfl, hr0⟩ := hq1
      have hqo := PV.one_sh σ.length hr0
      have hqc := hqo
      cases σ with
      | nil => simp at h2
      | cons r0_ σt =>
      simp at h2
      subst h2
      simp [PV.sh, PV.shs] at hev
      simp at hqo
      have hi' : i < es.length := by omega
      have he2 : es[i] = .agg [.val (.int .i64 0), .val (.slice none 0 0)] := by rw [List.getElem?_eq_getElem hi'] at he1; exact Option.some.inj he1
      rw [l_laws_toModuleS_0]
      simp [lb_laws_toModuleS_0, h, hl, hw, hev, he2, hqc, hqo, setCells, PV.sh, PV.shs])
    (fun xs σ es hx h2 hl hg => by
      cases σ with
      | nil => simp at h2
      | cons r0_ σt =>
      simp at h2
      subst h2
      unfold Good at hg
      simp at hg
      rw [l_laws_toModuleS_0]
      simp [lb_laws_toModuleS_0, tl_laws_toModuleS, hg])
    (fun σ ids p x h hb => (by obtain ⟨_, _, _, r1, _, rfl, ⟨_, rfl⟩, h1⟩ := own_Module.1 h; exact ⟨x.nodes, r1, by simp, (own_one h1).2.2.2⟩))

def wModule (x : GModule) : Nat := 1 + (fun xs : List GLink => 4 * xs.length) x.links
def mkModule (x : GModule) (k : Int) : GModule := ⟨k, (mkF 4 (fun k => (⟨k, k + 1, mtext (k + 2), k + 3⟩ : GLink))) x.links (k + 1)⟩
def tl_laws_markModuleS : AC := (.ghost (.kill [0, 5]) (.seq (.post (.reg [⟨(some 26), .op (.mv (.tmp 1)), none⟩,
    ⟨(some 4), .op (.mv (.tmp 26)), none⟩]) (.kill [1, 26]))
  .ret))
theorem markC_ModuleS : MarkC (α := List GModule) fns i_laws_markModuleS (sumW wModule) (mkL wModule mkModule) :=
  markC_mix (fun n0 id ver n i k σ => rE fns fa_laws_markModuleS n0 [.code lo_laws_markModuleS_0, .inBlock 0, .code tl_laws_markModuleS] [(5, i64 (i : Nat)), (1, i64 k), (0, .own id ver 0 n)] σ)
    (fun id ver n k σ r h => by
      refine go_laws_markModuleS (by simp) ?_
      simp [tl_laws_markModuleS] at h
      simp [ac_laws_markModuleS, h])
    (fun n0 id ver n i k σ es ix px x h2 hl hn hi hp ho hid hg hk hk2 => by
      obtain ⟨i0, r0, i1, r1, rfl, rfl, ⟨rfl, rfl⟩, h1⟩ := own_Module.1 ho.own
      have hlt : id < σ.length := (List.getElem?_eq_some_iff.1 h2).1
      have hw := wrap_i64 (n := i + 1) (by omega)
      have w1 := wrap_i64 (n := k + 1) (by unfold wModule at hk2; omega)
      have hi' : i < es.length := by omega
      have hp' : es[i] = .agg [i64 x.nodes, r1] := by rw [List.getElem?_eq_getElem hi'] at hp; exact Option.some.inj hp
      have hes := objsBel_get hg h2
      have hr1 : r1.bel σ.length = true := Own.bel h1 fun j hj => ho.lt j (by simpa using hj)
      have hbs : ∀ m, PV.bels m es = true → PV.bels m (es.set i (.agg [i64 k, r1])) = true := by
        intro m hm
        rw [PV.bels_iff] at hm ⊢
        intro p hpm
        rcases List.mem_or_eq_of_mem_set hpm with hpm | rfl
        · exact hm p hpm
        · have := hm _ (List.getElem_mem hi')
          rw [hp'] at this
          simpa [PV.bel, PV.bels] using this
      have gs : Good (σ.set id (.row 2 (es.set i (.agg [i64 k, r1])) ver)) := by
        unfold Good; rw [List.length_set]; exact objsBel_set hg _ _ _ (hbs _ hes)
      have os : OwnIn (σ.set id (.row 2 (es.set i (.agg [i64 k, r1])) ver)) i1 r1 x.links :=
        ⟨Own.frame h1 fun j hj => List.getElem?_set_ne fun e => hid (by simpa [e] using hj), by simpa using ho.nd, fun j hj => by rw [List.length_set]; exact ho.lt j (by simpa using hj)⟩
      obtain ⟨σ', m1, m2, m3, m4, m5, m6⟩ := markC_LinkS _ i1 r1 x.links (k + 1) os gs (by omega) (by unfold wModule at hk2; omega)
      have hset : ∀ r, (σ.set id r)[id]? = some r := fun r => List.getElem?_set_self hlt
      have hn1 := (own_one h1).2.2.2
      have hn2 := (own_one h1).2.2.1
      refine ⟨.agg [i64 k, r1], σ', ?_, ?_, ⟨[], i64 k, i1, r1, rfl, rfl, ⟨rfl, rfl⟩, m2.own⟩, by rw [m3, List.length_set], fun j hj hj2 => ?_, m5, ?_⟩
      · subst hl
        have e1 : k + (wModule x : Nat) = k + 1 + ((fun xs : List GLink => 4 * xs.length) x.links : Nat) := by unfold wModule; omega
        rw [e1, l_laws_markModuleS_0]
        simp at h2 m1 hn1 hn2
        simp [lb_laws_markModuleS_0, hi, hset, h2, hw, w1, hp', hn1, hn2, m1, setCells]
      · rw [m4 id fun hj => hid (by simpa using hj)]; exact hset _
      · rw [m4 j fun h => hj2 (by simpa using h), List.getElem?_set_ne (Ne.symm hj)]
      · intro m l h
        refine m6 m l ?_
        rw [List.take_set]
        by_cases hl' : id < l
        · exact objsBel_set h _ _ _ (hbs m (objsBel_get h (by rw [List.getElem?_take_of_lt hl']; exact h2)))
        · rw [List.set_eq_of_length_le (by rw [List.length_take]; omega)]; exact h)
    (fun id ver n k σ hg => by
      unfold Good at hg
      rw [l_laws_markModuleS_0]
      simp [lb_laws_markModuleS_0, tl_laws_markModuleS, hg])
    (fun k σ hg => by
      unfold Good at hg
      refine go_laws_markModuleS (by simp) ?_
      simp [ac_laws_markModuleS, l_laws_markModuleS_0, lb_laws_markModuleS_0, hg])

def ownProgram (σ : List AObj) (ids : List Nat) (p : PV) (x : GProgram) : Prop := ∃ i0 p0, ids = i0 ++ [] ∧ p = .agg [p0] ∧ Own.own σ i0 p0 x.modules
instance : Own GProgram := ⟨.agg [Own.sh (List GModule)], Own.dep (List GModule) + 1, ownProgram,
  fun {σ σ' ids p x} h k => by
    obtain ⟨i0, p0, rfl, rfl, h0⟩ := h
    exact ⟨i0, p0, rfl, rfl, Own.frame h0 fun i hi => k i (by simp [hi])⟩,
  fun {σ ids p x} h d hd => by
    obtain ⟨d, rfl⟩ : ∃ e, d = e + 1 := ⟨d - 1, by omega⟩
    obtain ⟨i0, p0, rfl, rfl, h0⟩ := h
    obtain ⟨q0, e0, f0⟩ := Own.read h0 d (by omega)
    refine ⟨.agg [q0], by simp [dfr, mapO, e0], ?_⟩
    simp only [PV.ty_agg, PV.tys, f0]; rfl,
  fun {σ} τ {ids p x} h => by
    obtain ⟨i0, p0, rfl, rfl, h0⟩ := h
    exact ⟨i0.map (· + τ.length), p0.sh τ.length, by simp, by simp [PV.sh, PV.shs], Own.shift τ h0⟩,
  fun {σ n ids p x} h k => by
    obtain ⟨i0, p0, rfl, rfl, h0⟩ := h
    simp only [PV.bel, PV.bels, Own.bel h0 fun i hi => k i (by simp [hi]), Bool.and_self],
  fun {σ ids p x} h => by
    obtain ⟨i0, p0, rfl, rfl, h0⟩ := h
    simp only [PV.nl, PV.nls, Own.nl h0, Bool.and_self]⟩

theorem own_Program {σ : List AObj} {ids : List Nat} {p : PV} {x : GProgram} : Own.own σ ids p x ↔ ownProgram σ ids p x := Iff.rfl
theorem toC_Program : ToC (α := GProgram) fns i_laws_toProgram Siz.size := by
  intro x hx
  rw [size_Program] at hx
  obtain ⟨q0, σ0, d0, c0, o0, lo0, ⟨m0, x0⟩, z0, nl0, g0, n0⟩ := ToC.call toC_ModuleS x.modules (by omega) [] (by simp [objsBel]) (by simp)
  have w0 : ∀ r0 r1, OwnIn (r0 :: r1 :: σ0) d0 q0 x.modules := fun r0 r1 => by
    exact o0 r0 r1
  have y0 : PV.bel (σ0.length + 1 + 1) q0 = true := by have := (w0 (.row 0 [] 0) (.row 0 [] 0)).bel; simpa using this
  have ln0 : σ0.length ≤ σ0.length := by exact Nat.le_refl _
  simp [-callN] at c0
  have kc0 := (own_one (o0 (.row 0 [] 0) (.row 0 [] 0)).own).2.2.1
  have ko0 := (own_one (o0 (.row 0 [] 0) (.row 0 [] 0)).own).2.1
  have kn0 := (own_one (o0 (.row 0 [] 0) (.row 0 [] 0)).own).2.2.2
  simp at kc0 ko0 kn0
  refine ⟨.agg [q0], .row 1 [.agg [q0]] 0 :: .row 1 [.agg [q0]] 0 :: σ0, d0 ++ [], ?_, ⟨⟨d0, q0, rfl, rfl, (w0 _ _).own⟩, ?_, ?_⟩, ⟨?_, ?_⟩, ?_⟩
  · refine go_laws_toProgram (by simp) ?_
    simp [-callN, ac_laws_toProgram, c0, kc0, ko0, kn0, setCells, z0, y0, g0]
  · have a0 := (w0 (.row 0 [] 0) (.row 0 [] 0)).nd
    have b0 := (o0 (.row 0 [] 0) (.row 0 [] 0)).lt
    simp only [List.length_cons] at b0
    simp only [List.nodup_append, List.mem_append, List.nil_append, List.append_nil]
    grind
  · intro j hj
    have a0 := (w0 (.row 0 [] 0) (.row 0 [] 0)).nd
    have b0 := (o0 (.row 0 [] 0) (.row 0 [] 0)).lt
    simp only [List.length_cons] at b0
    simp only [List.mem_append, List.nil_append, List.append_nil] at hj
    simp only [List.length_cons]
    grind
  · simp [Good, objsBel, PV.bels, PV.bel, y0, g0]
  · have h := List.all_eq_true.1 n0
    simp [AObj.nl, PV.nls, PV.nl, nl0]
    exact h
  · simp [PV.bel, PV.bels, z0]

def wProgram (x : GProgram) : Nat := (sumW wModule) x.modules
def mkProgram (x : GProgram) (k : Int) : GProgram := ⟨(mkL wModule mkModule) x.modules (k)⟩
theorem markC_Program : MarkC (α := GProgram) fns i_laws_markProgram wProgram mkProgram := by
  intro σ ids p x k h hg hk hk2
  obtain ⟨i0, p0, rfl, rfl, h0⟩ := h.own
  have nd := h.nd
  have lt := h.lt
  have hbel := h.bel
  simp only [wProgram, Int.natCast_add] at hk2 ⊢
  simp only [List.nodup_append, List.mem_append, List.append_assoc, List.nil_append, List.append_nil] at nd lt
  have hg0 : Good (σ ++ [AObj.row 1 [PV.agg [p0]] 0]) := by
    unfold Good
    rw [List.length_append]
    refine objsBel_app (objsBel_mono (by omega) hg) ?_
    simp only [objsBel, PV.bels, Bool.and_true]
    exact PV.bel_le (by omega) hbel
  have y : (σ ++ [AObj.row 1 [PV.agg [p0]] 0])[σ.length]? = some (AObj.row 1 [PV.agg [p0]] 0) := by simp
  have h0 := (OwnIn.grow [AObj.row 1 [PV.agg [p0]] 0] (⟨h0, by grind, fun j hj => lt j (by grind)⟩ : OwnIn σ i0 p0 x.modules)).own
  have o0 : OwnIn (σ ++ [AObj.row 1 [PV.agg [p0]] 0]) i0 p0 x.modules := ⟨h0, by grind, fun j hj => by rw [List.length_append]; have := lt j (by grind); omega⟩
  obtain ⟨σ0, e0, n0, l0, k0, g0, t0⟩ := markC_ModuleS (σ ++ [AObj.row 1 [PV.agg [p0]] 0]) i0 p0 x.modules (k) o0 hg0 (by first | omega | (dsimp only; omega)) (by first | omega | (dsimp only; omega))
  have y0 : σ0[σ.length]? = some (AObj.row 1 [PV.agg [p0]] 0) := by rw [k0 σ.length fun hj => by have := lt σ.length (by grind); omega]; exact y
  have q0 := n0.own
  have ll : σ0.length = σ.length + 1 := by rw [l0, List.length_append]; rfl
  have tk : TkB (σ ++ [AObj.row 1 [PV.agg [p0]] 0]) σ0 := t0
  have gt : objsBel σ.length (σ0.take σ.length) = true := tk σ.length σ.length (by rw [List.take_left]; exact hg)
  have fr : ∀ {u : Nat}, u < σ.length → (σ0.take σ.length)[u]? = σ0[u]? := fun hu => by rw [List.getElem?_take]; simp [hu]
  have q0 := Own.frame q0 (σ' := σ0.take σ.length) fun j hj => fr (lt j (by grind))
  refine ⟨σ0.take σ.length, ?_, ⟨⟨i0, p0, rfl, rfl, q0⟩, h.nd, fun j hj => ?_⟩, ?_, fun j hj => ?_, ?_, ?_⟩
  · refine go_laws_markProgram (by simp) ?_
    unfold Good at g0
    have kn0 := (own_one h0).2.2.2
    simp at e0 kn0
    simp [ac_laws_markProgram, e0, kn0, y0, g0, ll, gt]
    try first | omega | (congr 4; omega)
  · rw [List.length_take, ll]; have := h.lt j hj; omega
  · rw [List.length_take, ll]; omega
  · simp only [List.mem_append, List.append_assoc] at hj
    by_cases hl : j < σ.length
    · rw [fr hl, k0 j (by grind), List.getElem?_append_left hl]
    · rw [List.getElem?_eq_none (by rw [List.length_take, ll]; omega), List.getElem?_eq_none (by omega)]
  · unfold Good; rw [List.length_take, ll, show min σ.length (σ.length + 1) = σ.length by omega]; exact gt
  · intro m l hm
    rw [List.take_take]
    refine tk m _ ?_
    rw [List.take_append_of_le_length (by omega)]
    by_cases hl : l ≤ σ.length
    · rw [show min l σ.length = l by omega]; exact hm
    · rw [show min l σ.length = σ.length by omega, List.take_length]; rwa [List.take_of_length_le (by omega)] at hm

theorem lo_laws_toInt64S (ls : List Int) (hl : Siz.size ls ≤ 1048576) (ks : List KI) : ∀ suf pre, ls = pre ++ suf →
    rE fns fa_laws_toInt64S 0 (.code lo_laws_toInt64S_0 :: .inBlock 0 :: ks) [(4, i64 pre.length), (3, .own 0 0 0 ls.length), (0, lst 1 ls)] [.row 1 (pre.map Enc.pv ++ List.replicate suf.length (.val (.int .i64 0))) 0] =
      rE fns fa_laws_toInt64S 0 ks [(3, .own 0 0 0 ls.length)] [.row 1 (ls.map Enc.pv) 0] := by
  have hl1 := Siz.len_le ls
  intro suf
  induction suf with
  | nil =>
    intro pre h
    simp at h; subst h
    rw [l_laws_toInt64S_0]
    simp [lb_laws_toInt64S_0]
  | cons x suf ih =>
    intro pre h
    rw [l_laws_toInt64S_0]
    have mm := mid h
    have m1 := mm.1
    have hw := wrap_i64 (n := pre.length + 1) (by omega)
    have hle : pre.length + (suf.length + 1) ≤ ls.length := by simp [h]
    have ih := ih (pre ++ [x]) (by simp [h])
    simp at ih
    simp [lb_laws_toInt64S_0, mm.1, mm.2.2, hw, List.replicate_succ, hle, ih]
theorem ev_laws_toInt64S (a : List Int) (h : Siz.size a ≤ 1048576) : ev fns i_laws_toInt64S [lst 1 a] [] = some (.own 0 0 0 a.length, [.row 1 (a.map Enc.pv) 0]) := by
  have hl := Siz.len_le a
  refine go_laws_toInt64S (by simp) ?_
  have h1 : (a.length : Int) * 40 ≤ 281474976710656 ∧ (a.length : Int) * 32 ≤ 281474976710656 ∧ (a.length : Int) * 24 ≤ 281474976710656 ∧ (a.length : Int) * 16 ≤ 281474976710656 ∧ (a.length : Int) * 8 ≤ 281474976710656 ∧ (a.length : Int) ≤ 281474976710656 ∧ a.length ≤ 140737488355328 := by omega
  have lo := fun ks => lo_laws_toInt64S a h ks a [] rfl
  simp at lo
  simp [ac_laws_toInt64S, h1, lo]
theorem toC_Int64S : ToC (α := List Int) fns i_laws_toInt64S Siz.size := by
  intro x hx
  have hl := Siz.len_le x
  exact ⟨_, _, [0], ev_laws_toInt64S x hx, ⟨own_flat x rfl (by omega), by simp, by simp⟩, ⟨by simp only [Good, List.length_singleton, objsBel, Bool.and_true]; exact bels_map _ _, by simp only [List.all_cons, List.all_nil, Bool.and_true, AObj.nl, PV.nls_iff]; intro p hp; obtain ⟨y, _, rfl⟩ := List.mem_map.1 hp; simp [PV.nl, PV.nls]⟩, by simp [PV.bel]⟩

def tl_laws_markInt64S : AC := (.ghost (.kill [0, 5]) (.seq (.post (.reg [⟨(some 18), .op (.mv (.tmp 1)), none⟩,
    ⟨(some 4), .op (.mv (.tmp 18)), none⟩]) (.kill [1, 18]))
  .ret))
theorem markC_Int64S : MarkC (α := List Int) fns i_laws_markInt64S (fun xs : List Int => 1 * xs.length) (mkF 1 (fun k => k)) :=
  markC_flat 1 (fun k => k) (fun n0 id ver n i k σ => rE fns fa_laws_markInt64S n0 [.code lo_laws_markInt64S_0, .inBlock 0, .code tl_laws_markInt64S] [(5, i64 (i : Nat)), (1, i64 k), (0, .own id ver 0 n)] σ)
    (fun id ver n k σ r h => by
      refine go_laws_markInt64S (by simp) ?_
      simp [tl_laws_markInt64S] at h
      simp [ac_laws_markInt64S, h])
    (fun n0 id ver n i k σ xs h hlt h2 hn hb hk hk2 => by
      have hw := wrap_i64 (n := i + 1) (by omega)
      have w1 := wrap_i64 (n := k + 1) (by omega)
      subst hn
      simp at h2
      have hset : ∀ r, (σ.set id r)[id]? = some r := fun r => List.getElem?_set_self hlt
      rw [l_laws_markInt64S_0]
      simp [lb_laws_markInt64S_0, h, hset, h2, hw, w1, setCells, List.map_set])
    (fun id ver n k σ hg => by
      unfold Good at hg
      rw [l_laws_markInt64S_0]
      simp [lb_laws_markInt64S_0, tl_laws_markInt64S, hg])
    (fun k σ hg => by
      unfold Good at hg
      refine go_laws_markInt64S (by simp) ?_
      simp [ac_laws_markInt64S, l_laws_markInt64S_0, lb_laws_markInt64S_0, hg])

def tl_laws_heldInt64S : AC := (.ghost (.kill [0, 5]) (.seq (.post (.reg [⟨(some 20), .op (.mv (.tmp 1)), none⟩,
    ⟨(some 4), .op (.mv (.tmp 20)), none⟩]) (.kill [1, 20]))
  .ret))
theorem heldC_Int64S : HeldC (α := List Int) fns i_laws_heldInt64S (fun xs : List Int => 1 * xs.length) (mkF 1 (fun k => k)) :=
  heldC_flat 1 (fun k => k) (fun ys i k => rE fns fa_laws_heldInt64S 0 [.code lo_laws_heldInt64S_0, .inBlock 0, .code tl_laws_heldInt64S] [(5, i64 (i : Nat)), (1, i64 k), (0, lst 1 ys)] [])
    (fun ys k r h => by
      refine go_laws_heldInt64S (by simp) ?_
      simp [tl_laws_heldInt64S] at h
      simp [ac_laws_heldInt64S, h])
    (fun ys i k h hk hk2 hl hy => by
      have hw := wrap_i64 (n := i + 1) (by omega)
      have w1 := wrap_i64 (n := k + 1) (by omega)
      rw [l_laws_heldInt64S_0]
      simp [lb_laws_heldInt64S_0, h, hy, hw, w1])
    (fun ys k => by
      rw [l_laws_heldInt64S_0]
      simp [lb_laws_heldInt64S_0, tl_laws_heldInt64S])

def tl_laws_markInt64SS : AC := (.ghost (.kill [0, 5]) (.seq (.post (.reg [⟨(some 18), .op (.mv (.tmp 1)), none⟩,
    ⟨(some 4), .op (.mv (.tmp 18)), none⟩]) (.kill [1, 18]))
  .ret))
theorem markC_Int64SS : MarkC (α := List (List Int)) fns i_laws_markInt64SS (sumW (fun xs : List Int => 1 * xs.length)) (mkL (fun xs : List Int => 1 * xs.length) (mkF 1 (fun k => k))) :=
  markC_list markC_Int64S (fun n0 id ver n i k σ => rE fns fa_laws_markInt64SS n0 [.code lo_laws_markInt64SS_0, .inBlock 0, .code tl_laws_markInt64SS] [(5, i64 (i : Nat)), (1, i64 k), (0, .own id ver 0 n)] σ)
    (fun id ver n k σ r h => by
      refine go_laws_markInt64SS (by simp) ?_
      simp [tl_laws_markInt64SS] at h
      simp [ac_laws_markInt64SS, h])
    (fun n0 id ver n i k k' σ σ' es p h2 hl hn hi hp ho hc hev => by
      have hw := wrap_i64 (n := i + 1) (by omega)
      have hi' : i < es.length := by omega
      have hp' : es[i] = p := by rw [List.getElem?_eq_getElem hi'] at hp; exact Option.some.inj hp
      simp at h2 hev hc
      rw [l_laws_markInt64SS_0]
      simp [lb_laws_markInt64SS_0, hi, hl, h2, hw, hp', hc, hev])
    (fun id ver n k σ hg => by
      unfold Good at hg
      rw [l_laws_markInt64SS_0]
      simp [lb_laws_markInt64SS_0, tl_laws_markInt64SS, hg])
    (fun k σ hg => by
      unfold Good at hg
      refine go_laws_markInt64SS (by simp) ?_
      simp [ac_laws_markInt64SS, l_laws_markInt64SS_0, lb_laws_markInt64SS_0, hg])
    (fun σ ids p x h => ⟨(own_one h).2.1, (own_one h).2.2.1⟩)

def tl_laws_heldInt64SS : AC := (.ghost (.kill [0, 5]) (.seq (.post (.reg [⟨(some 20), .op (.mv (.tmp 1)), none⟩,
    ⟨(some 4), .op (.mv (.tmp 20)), none⟩]) (.kill [1, 20]))
  .ret))
theorem heldC_Int64SS : HeldC (α := List (List Int)) fns i_laws_heldInt64SS (sumW (fun xs : List Int => 1 * xs.length)) (mkL (fun xs : List Int => 1 * xs.length) (mkF 1 (fun k => k))) :=
  heldC_list heldC_Int64S (fun ys i k => rE fns fa_laws_heldInt64SS 0 [.code lo_laws_heldInt64SS_0, .inBlock 0, .code tl_laws_heldInt64SS] [(5, i64 (i : Nat)), (1, i64 k), (0, lst 1 ys)] [])
    (fun ys k r h => by
      refine go_laws_heldInt64SS (by simp) ?_
      simp [tl_laws_heldInt64SS] at h
      simp [ac_laws_heldInt64SS, h])
    (fun ys i k k' h hk hl hev => by
      have hw := wrap_i64 (n := i + 1) (by omega)
      simp at hev
      rw [l_laws_heldInt64SS_0]
      simp [lb_laws_heldInt64SS_0, h, hw, hev, show ¬ (k' < 0) by omega])
    (fun ys k => by
      rw [l_laws_heldInt64SS_0]
      simp [lb_laws_heldInt64SS_0, tl_laws_heldInt64SS])

def ownPlace (σ : List AObj) (ids : List Nat) (p : PV) (x : GPlace) : Prop := ∃ i0 p0 i1 p1 i2 p2, ids = i0 ++ i1 ++ i2 ∧ p = .agg [p0, p1, p2] ∧ Own.own σ i0 p0 x.module ∧ Own.own σ i1 p1 x.node ∧ Own.own σ i2 p2 x.opn
instance : Own GPlace := ⟨.agg [Own.sh (Int), Own.sh (Int), Own.sh (List (List Int))], max (Own.dep (Int)) (max (Own.dep (Int)) (Own.dep (List (List Int)))) + 1, ownPlace,
  fun {σ σ' ids p x} h k => by
    obtain ⟨i0, p0, i1, p1, i2, p2, rfl, rfl, h0, h1, h2⟩ := h
    exact ⟨i0, p0, i1, p1, i2, p2, rfl, rfl, Own.frame h0 fun i hi => k i (by simp [hi]), Own.frame h1 fun i hi => k i (by simp [hi]), Own.frame h2 fun i hi => k i (by simp [hi])⟩,
  fun {σ ids p x} h d hd => by
    obtain ⟨d, rfl⟩ : ∃ e, d = e + 1 := ⟨d - 1, by omega⟩
    obtain ⟨i0, p0, i1, p1, i2, p2, rfl, rfl, h0, h1, h2⟩ := h
    obtain ⟨q0, e0, f0⟩ := Own.read h0 d (by omega)
    obtain ⟨q1, e1, f1⟩ := Own.read h1 d (by omega)
    obtain ⟨q2, e2, f2⟩ := Own.read h2 d (by omega)
    refine ⟨.agg [q0, q1, q2], by simp [dfr, mapO, e0, e1, e2], ?_⟩
    simp only [PV.ty_agg, PV.tys, f0, f1, f2]; rfl,
  fun {σ} τ {ids p x} h => by
    obtain ⟨i0, p0, i1, p1, i2, p2, rfl, rfl, h0, h1, h2⟩ := h
    exact ⟨i0.map (· + τ.length), p0.sh τ.length, i1.map (· + τ.length), p1.sh τ.length, i2.map (· + τ.length), p2.sh τ.length, by simp, by simp [PV.sh, PV.shs], Own.shift τ h0, Own.shift τ h1, Own.shift τ h2⟩,
  fun {σ n ids p x} h k => by
    obtain ⟨i0, p0, i1, p1, i2, p2, rfl, rfl, h0, h1, h2⟩ := h
    simp only [PV.bel, PV.bels, Own.bel h0 fun i hi => k i (by simp [hi]), Own.bel h1 fun i hi => k i (by simp [hi]), Own.bel h2 fun i hi => k i (by simp [hi]), Bool.and_self],
  fun {σ ids p x} h => by
    obtain ⟨i0, p0, i1, p1, i2, p2, rfl, rfl, h0, h1, h2⟩ := h
    simp only [PV.nl, PV.nls, Own.nl h0, Own.nl h1, Own.nl h2, Bool.and_self]⟩

theorem own_Place {σ : List AObj} {ids : List Nat} {p : PV} {x : GPlace} : Own.own σ ids p x ↔ ownPlace σ ids p x := Iff.rfl
def wPlace (x : GPlace) : Nat := (sumW (fun xs : List Int => 1 * xs.length)) x.opn
def mkPlace (x : GPlace) (k : Int) : GPlace := ⟨x.module, x.node, (mkL (fun xs : List Int => 1 * xs.length) (mkF 1 (fun k => k))) x.opn (k)⟩
theorem markC_Place : MarkC (α := GPlace) fns i_laws_markPlace wPlace mkPlace := by
  intro σ ids p x k h hg hk hk2
  obtain ⟨i0, p0, i1, p1, i2, p2, rfl, rfl, ⟨rfl, rfl⟩, ⟨rfl, rfl⟩, h2⟩ := h.own
  have nd := h.nd
  have lt := h.lt
  have hbel := h.bel
  simp only [wPlace, Int.natCast_add] at hk2 ⊢
  simp only [List.nodup_append, List.mem_append, List.append_assoc, List.nil_append, List.append_nil] at nd lt
  have hg0 : Good (σ ++ [AObj.row 3 [PV.agg [Enc.pv x.module, Enc.pv x.node, p2]] 0]) := by
    unfold Good
    rw [List.length_append]
    refine objsBel_app (objsBel_mono (by omega) hg) ?_
    simp only [objsBel, PV.bels, Bool.and_true]
    exact PV.bel_le (by omega) hbel
  have y : (σ ++ [AObj.row 3 [PV.agg [Enc.pv x.module, Enc.pv x.node, p2]] 0])[σ.length]? = some (AObj.row 3 [PV.agg [Enc.pv x.module, Enc.pv x.node, p2]] 0) := by simp
  have h2 := (OwnIn.grow [AObj.row 3 [PV.agg [Enc.pv x.module, Enc.pv x.node, p2]] 0] (⟨h2, by grind, fun j hj => lt j (by grind)⟩ : OwnIn σ i2 p2 x.opn)).own
  have o2 : OwnIn (σ ++ [AObj.row 3 [PV.agg [Enc.pv x.module, Enc.pv x.node, p2]] 0]) i2 p2 x.opn := ⟨h2, by grind, fun j hj => by rw [List.length_append]; have := lt j (by grind); omega⟩
  obtain ⟨σ2, e2, n2, l2, k2, g2, t2⟩ := markC_Int64SS (σ ++ [AObj.row 3 [PV.agg [Enc.pv x.module, Enc.pv x.node, p2]] 0]) i2 p2 x.opn (k) o2 hg0 (by first | omega | (dsimp only; omega)) (by first | omega | (dsimp only; omega))
  have y2 : σ2[σ.length]? = some (AObj.row 3 [PV.agg [Enc.pv x.module, Enc.pv x.node, p2]] 0) := by rw [k2 σ.length fun hj => by have := lt σ.length (by grind); omega]; exact y
  have q2 := n2.own
  have ll : σ2.length = σ.length + 1 := by rw [l2, List.length_append]; rfl
  have tk : TkB (σ ++ [AObj.row 3 [PV.agg [Enc.pv x.module, Enc.pv x.node, p2]] 0]) σ2 := t2
  have gt : objsBel σ.length (σ2.take σ.length) = true := tk σ.length σ.length (by rw [List.take_left]; exact hg)
  have fr : ∀ {u : Nat}, u < σ.length → (σ2.take σ.length)[u]? = σ2[u]? := fun hu => by rw [List.getElem?_take]; simp [hu]
  have q2 := Own.frame q2 (σ' := σ2.take σ.length) fun j hj => fr (lt j (by grind))
  refine ⟨σ2.take σ.length, ?_, ⟨⟨[], _, [], _, i2, p2, rfl, rfl, ⟨rfl, rfl⟩, ⟨rfl, rfl⟩, q2⟩, h.nd, fun j hj => ?_⟩, ?_, fun j hj => ?_, ?_, ?_⟩
  · refine go_laws_markPlace (by simp) ?_
    unfold Good at g2
    have kn2 := (own_one h2).2.2.2
    simp at e2 kn2
    simp [ac_laws_markPlace, e2, kn2, y2, g2, ll, gt]
    try first | omega | (congr 4; omega)
  · rw [List.length_take, ll]; have := h.lt j hj; omega
  · rw [List.length_take, ll]; omega
  · simp only [List.mem_append, List.append_assoc] at hj
    by_cases hl : j < σ.length
    · rw [fr hl, k2 j (by grind), List.getElem?_append_left hl]
    · rw [List.getElem?_eq_none (by rw [List.length_take, ll]; omega), List.getElem?_eq_none (by omega)]
  · unfold Good; rw [List.length_take, ll, show min σ.length (σ.length + 1) = σ.length by omega]; exact gt
  · intro m l hm
    rw [List.take_take]
    refine tk m _ ?_
    rw [List.take_append_of_le_length (by omega)]
    by_cases hl : l ≤ σ.length
    · rw [show min l σ.length = l by omega]; exact hm
    · rw [show min l σ.length = σ.length by omega, List.take_length]; rwa [List.take_of_length_le (by omega)] at hm

theorem heldC_Place : HeldC (α := GPlace) fns i_laws_heldPlace wPlace mkPlace := by
  intro σ ids p x k ho hk hk2
  obtain ⟨i0, p0, i1, p1, i2, p2, rfl, rfl, h0, h1, h2⟩ := ho
  simp only [wPlace, Int.natCast_add] at hk2 ⊢
  have e2 := heldC_Int64SS σ i2 p2 x.opn (k) h2 (by first | omega | (dsimp only; omega)) (by first | omega | (dsimp only; omega))
  refine go_laws_heldPlace (by simp) ?_
  simp at e2
  simp [ac_laws_heldPlace, mkPlace, e2, show ¬ (k + ((sumW (fun xs : List Int => 1 * xs.length)) x.opn : Nat) < 0) by omega]
  all_goals first | omega | (intros; omega)

end Go.Proofs.Ytegjfjckijmgcaa
