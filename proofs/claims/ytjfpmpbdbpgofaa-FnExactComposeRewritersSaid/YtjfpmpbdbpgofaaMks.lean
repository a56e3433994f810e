/- Owned data of the laws' types: made, marked and held; printed by a program (mk.py). -/
import Derived.Test.YtjfpmpbdbpgofaaDat
import Derived.Test.YtjfpmpbdbpgofaaAw35
import Derived.Test.YtjfpmpbdbpgofaaMText
set_option linter.unusedVariables false
set_option linter.unusedSimpArgs false
set_option maxRecDepth 100000
namespace Go.Proofs.Ytjfpmpbdbpgofaa
open Aw

theorem own_one {α : Type} [Enc α] [Own α] {σ : List AObj} {ids : List Nat} {p : PV} {xs : List α} (h : Own.own σ ids p xs) : p.cells.length = 1 ∧ p.okc = true ∧ p.cells = [p] ∧ p.one = true := by
  rcases h with ⟨rfl, rfl, rfl⟩ | ⟨id, ver, es, is, rfl, _⟩ <;> simp [PV.cells, PV.okc, PV.one, Value.oneCell']
theorem PV.one_sh {p : PV} (k : Nat) (h : p.one = true) : (p.sh k).one = true := by
  cases p <;> simp_all [PV.one, PV.sh]
theorem PV.okc_sh {p : PV} {k : Nat} (h : p.okc = true) (hc : p.cells = [p]) : (p.sh k).okc = true := by
  cases p with
  | agg ps =>
    simp only [PV.cells] at hc
    have h1 : ps.length = 1 := by rw [hc]; rfl
    match ps, h1 with
    | [q], _ => simp at hc; have := congrArg SizeOf.sizeOf hc; simp at this; omega
  | _ => simp_all [PV.sh, PV.okc, PV.one]

instance : Own GOutPush := ⟨.any, 2, fun _ ids p x => ids = [] ∧ p = Enc.pv x, fun h _ => h, fun {σ ids p x} h d hd => by
  obtain ⟨d, rfl⟩ : ∃ e, d = e + 2 := ⟨d - 2, by omega⟩
  exact ⟨p, by rw [h.2]; exact PV.flat_dfr (Enc.flat x) σ d, by simp [h.2]⟩,
  fun {σ} τ {ids p x} h => ⟨by simp [h.1], by rw [h.2]; simp [PV.sh, PV.shs]⟩, fun h _ => by rw [h.2]; simp [PV.bel, PV.bels], fun h => by rw [h.2]; simp [PV.nl, PV.nls]⟩
theorem own_OutPush {σ : List AObj} {ids : List Nat} {p : PV} {x : GOutPush} : Own.own σ ids p x ↔ ids = [] ∧ p = x.v := Iff.rfl
instance : Flat GOutPush := ⟨fun {σ ids p x} => Iff.rfl⟩
theorem lo_laws_toOutPushS (ls : List GOutPush) (hl : Siz.size ls ≤ 1048576) (ks : List KI) : ∀ suf pre, ls = pre ++ suf →
    rE fns fa_laws_toOutPushS 0 (.code lo_laws_toOutPushS_0 :: .inBlock 0 :: ks) [(4, i64 pre.length), (3, .own 0 0 0 ls.length), (0, lst 3 ls)] [.row 3 (pre.map Enc.pv ++ List.replicate suf.length (.agg [.val (.int .i64 0), .val (.int .i64 0), .val (.string ⟨#[]⟩)])) 0] =
      rE fns fa_laws_toOutPushS 0 ks [(3, .own 0 0 0 ls.length)] [.row 3 (ls.map Enc.pv) 0] := by
  have hl1 := Siz.len_le ls
  intro suf
  induction suf with
  | nil =>
    intro pre h
    simp at h; subst h
    rw [l_laws_toOutPushS_0]
    simp [lb_laws_toOutPushS_0]
  | cons x suf ih =>
    intro pre h
    rw [l_laws_toOutPushS_0]
    have mm := mid h
    have m1 := mm.1
    have hw := wrap_i64 (n := pre.length + 1) (by omega)
    have hle : pre.length + (suf.length + 1) ≤ ls.length := by simp [h]
    have ce := ev_laws_toOutPush x (by have := Siz.mem_le (x := x) (xs := ls) (by simp [h]); omega)
    have ih := ih (pre ++ [x]) (by simp [h])
    simp at ih
    simp [lb_laws_toOutPushS_0, mm.1, mm.2.2, hw, ce, List.replicate_succ, hle, ih]
theorem ev_laws_toOutPushS (a : List GOutPush) (h : Siz.size a ≤ 1048576) : ev fns i_laws_toOutPushS [lst 3 a] [] = some (.own 0 0 0 a.length, [.row 3 (a.map Enc.pv) 0]) := by
  have hl := Siz.len_le a
  refine go_laws_toOutPushS (by simp) ?_
  have h1 : (a.length : Int) * 40 ≤ 281474976710656 ∧ (a.length : Int) * 32 ≤ 281474976710656 ∧ (a.length : Int) * 24 ≤ 281474976710656 ∧ (a.length : Int) * 16 ≤ 281474976710656 ∧ (a.length : Int) * 8 ≤ 281474976710656 ∧ (a.length : Int) ≤ 281474976710656 ∧ a.length ≤ 140737488355328 := by omega
  have lo := fun ks => lo_laws_toOutPushS a h ks a [] rfl
  simp at lo
  simp [ac_laws_toOutPushS, h1, lo]
theorem toC_OutPushS : ToC (α := List GOutPush) fns i_laws_toOutPushS Siz.size := by
  intro x hx
  have hl := Siz.len_le x
  exact ⟨_, _, [0], ev_laws_toOutPushS x hx, ⟨own_flat x rfl (by omega), by simp, by simp⟩, ⟨by simp only [Good, List.length_singleton, objsBel, Bool.and_true]; exact bels_map _ _, by simp only [List.all_cons, List.all_nil, Bool.and_true, AObj.nl, PV.nls_iff]; intro p hp; obtain ⟨y, _, rfl⟩ := List.mem_map.1 hp; simp [PV.nl, PV.nls]⟩, by simp [PV.bel]⟩

def tl_laws_markOutPushS : AC := (.ghost (.kill [0, 5]) (.seq (.post (.reg [⟨(some 34), .op (.mv (.tmp 1)), none⟩,
    ⟨(some 4), .op (.mv (.tmp 34)), none⟩]) (.kill [1, 34]))
  .ret))
theorem markC_OutPushS : MarkC (α := List GOutPush) fns i_laws_markOutPushS (fun xs : List GOutPush => 3 * xs.length) (mkF 3 (fun k => (⟨k, k + 1, mtext (k + 2)⟩ : GOutPush))) :=
  markC_flat 3 (fun k => (⟨k, k + 1, mtext (k + 2)⟩ : GOutPush)) (fun n0 id ver n i k σ => rE fns fa_laws_markOutPushS n0 [.code lo_laws_markOutPushS_0, .inBlock 0, .code tl_laws_markOutPushS] [(5, i64 (i : Nat)), (1, i64 k), (0, .own id ver 0 n)] σ)
    (fun id ver n k σ r h => by
      refine go_laws_markOutPushS (by simp) ?_
      simp [tl_laws_markOutPushS] at h
      simp [ac_laws_markOutPushS, h])
    (fun n0 id ver n i k σ xs h hlt h2 hn hb hk hk2 => by
      have hw := wrap_i64 (n := i + 1) (by omega)
      have w1 := wrap_i64 (n := k + 1) (by omega)
      have w2 := wrap_i64 (n := k + 2) (by omega)
      have w3 := wrap_i64 (n := k + 3) (by omega)
      have v1 := wrap_i64 (n := k + 1 + 1) (by omega)
      have v2 := wrap_i64 (n := k + 2 + 1) (by omega)
      have u1 : k + 1 + 1 = k + 2 := by omega
      have u2 : k + 2 + 1 = k + 3 := by omega
      have m2 := ev_laws_markText (k + 2) (by omega)
      simp at m2
      subst hn
      simp at h2
      have hset : ∀ r, (σ.set id r)[id]? = some r := fun r => List.getElem?_set_self hlt
      rw [l_laws_markOutPushS_0]
      simp [lb_laws_markOutPushS_0, h, hset, h2, hw, w1, w2, w3, v1, u1, v2, u2, m2, setCells, List.map_set])
    (fun id ver n k σ hg => by
      unfold Good at hg
      rw [l_laws_markOutPushS_0]
      simp [lb_laws_markOutPushS_0, tl_laws_markOutPushS, hg])
    (fun k σ hg => by
      unfold Good at hg
      refine go_laws_markOutPushS (by simp) ?_
      simp [ac_laws_markOutPushS, l_laws_markOutPushS_0, lb_laws_markOutPushS_0, hg])

def tl_laws_heldOutPushS : AC := (.ghost (.kill [0, 5]) (.seq (.post (.reg [⟨(some 40), .op (.mv (.tmp 1)), none⟩,
    ⟨(some 4), .op (.mv (.tmp 40)), none⟩]) (.kill [1, 40]))
  .ret))
theorem heldC_OutPushS : HeldC (α := List GOutPush) fns i_laws_heldOutPushS (fun xs : List GOutPush => 3 * xs.length) (mkF 3 (fun k => (⟨k, k + 1, mtext (k + 2)⟩ : GOutPush))) :=
  heldC_flat 3 (fun k => (⟨k, k + 1, mtext (k + 2)⟩ : GOutPush)) (fun ys i k => rE fns fa_laws_heldOutPushS 0 [.code lo_laws_heldOutPushS_0, .inBlock 0, .code tl_laws_heldOutPushS] [(5, i64 (i : Nat)), (1, i64 k), (0, lst 3 ys)] [])
    (fun ys k r h => by
      refine go_laws_heldOutPushS (by simp) ?_
      simp [tl_laws_heldOutPushS] at h
      simp [ac_laws_heldOutPushS, h])
    (fun ys i k h hk hk2 hl hy => by
      have hw := wrap_i64 (n := i + 1) (by omega)
      have w1 := wrap_i64 (n := k + 1) (by omega)
      have w2 := wrap_i64 (n := k + 2) (by omega)
      have w3 := wrap_i64 (n := k + 3) (by omega)
      have v1 := wrap_i64 (n := k + 1 + 1) (by omega)
      have v2 := wrap_i64 (n := k + 2 + 1) (by omega)
      have u1 : k + 1 + 1 = k + 2 := by omega
      have u2 : k + 2 + 1 = k + 3 := by omega
      have m2 := ev_laws_markText (k + 2) (by omega)
      simp at m2
      rw [l_laws_heldOutPushS_0]
      simp [lb_laws_heldOutPushS_0, h, hy, hw, w1, w2, w3, v1, u1, v2, u2, m2])
    (fun ys k => by
      rw [l_laws_heldOutPushS_0]
      simp [lb_laws_heldOutPushS_0, tl_laws_heldOutPushS])

def tl_laws_toOutPushSS : AC := (.ghost (.kill [0, 4]) (.seq (.post (.reg [⟨(some 22), .op (.mv (.tmp 3)), none⟩,
    ⟨(some 2), .op (.mv (.tmp 22)), none⟩]) (.kill [3, 22]))
  .ret))
theorem toC_OutPushSS : ToC (α := List (List GOutPush)) fns i_laws_toOutPushSS Siz.size :=
  toC_list (z := .val (.slice none 0 0)) (fun n => by simp [PV.bel, PV.bels]) (by simp [PV.nl, PV.nls]) toC_OutPushS (fun x xs h hs => by have := Siz.mem_le h; omega) Siz.len_le
    (fun xs i σ => rE fns fa_laws_toOutPushSS 0 [.code lo_laws_toOutPushSS_0, .inBlock 0, .code tl_laws_toOutPushSS] [(4, i64 i), (3, .own 0 0 0 xs.length), (0, lst 1 xs)] σ)
    (fun xs r hx h => by
      have hl := Siz.len_le xs
      refine go_laws_toOutPushSS (by simp) ?_
      have h1 : (xs.length : Int) * 40 ≤ 281474976710656 ∧ (xs.length : Int) * 32 ≤ 281474976710656 ∧ (xs.length : Int) * 72 ≤ 281474976710656 ∧ (xs.length : Int) * 24 ≤ 281474976710656 ∧ (xs.length : Int) * 16 ≤ 281474976710656 ∧ (xs.length : Int) * 8 ≤ 281474976710656 ∧ (xs.length : Int) ≤ 281474976710656 ∧ xs.length ≤ 140737488355328 := by omega
      simp [tl_laws_toOutPushSS] at h
      simp [ac_laws_toOutPushSS, h1, h])
    (fun xs i σ es q τ h hx h2 hl he hev hq1 hq2 hq3 => by
      have hll := Siz.len_le xs
      have hw := wrap_i64 (n := i + 1) (by omega)
      obtain ⟨ee, he1, he2⟩ := he
      subst he2
      have hqc := PV.sh_cells σ.length q
      rw [hq3] at hqc
      simp at hqc
      have hqo : (q.sh σ.length).okc = true := PV.okc_sh hq2 hq3
      cases σ with
      | nil => simp at h2
      | cons r0_ σt =>
      simp at h2
      subst h2
      simp at hev hqo hqc
      have hi' : i < es.length := by omega
      have he2 : es[i] = .val (.slice none 0 0) := by rw [List.getElem?_eq_getElem hi'] at he1; exact Option.some.inj he1
      rw [l_laws_toOutPushSS_0]
      simp [lb_laws_toOutPushSS_0, h, hl, hw, hev, he2, hqc, hqo, setCells])
    (fun xs σ es hx h2 hl hg => by
      cases σ with
      | nil => simp at h2
      | cons r0_ σt =>
      simp at h2
      subst h2
      unfold Good at hg
      simp at hg
      rw [l_laws_toOutPushSS_0]
      simp [lb_laws_toOutPushSS_0, tl_laws_toOutPushSS, hg])
    (fun σ ids p x h hb => ⟨(own_one h).1, (own_one h).2.1, (own_one h).2.2.1⟩)

def tl_laws_markOutPushSS : AC := (.ghost (.kill [0, 5]) (.seq (.post (.reg [⟨(some 18), .op (.mv (.tmp 1)), none⟩,
    ⟨(some 4), .op (.mv (.tmp 18)), none⟩]) (.kill [1, 18]))
  .ret))
theorem markC_OutPushSS : MarkC (α := List (List GOutPush)) fns i_laws_markOutPushSS (sumW (fun xs : List GOutPush => 3 * xs.length)) (mkL (fun xs : List GOutPush => 3 * xs.length) (mkF 3 (fun k => (⟨k, k + 1, mtext (k + 2)⟩ : GOutPush)))) :=
  markC_list markC_OutPushS (fun n0 id ver n i k σ => rE fns fa_laws_markOutPushSS n0 [.code lo_laws_markOutPushSS_0, .inBlock 0, .code tl_laws_markOutPushSS] [(5, i64 (i : Nat)), (1, i64 k), (0, .own id ver 0 n)] σ)
    (fun id ver n k σ r h => by
      refine go_laws_markOutPushSS (by simp) ?_
      simp [tl_laws_markOutPushSS] at h
      simp [ac_laws_markOutPushSS, h])
    (fun n0 id ver n i k k' σ σ' es p h2 hl hn hi hp ho hc hev => by
      have hw := wrap_i64 (n := i + 1) (by omega)
      have hi' : i < es.length := by omega
      have hp' : es[i] = p := by rw [List.getElem?_eq_getElem hi'] at hp; exact Option.some.inj hp
      simp at h2 hev hc
      rw [l_laws_markOutPushSS_0]
      simp [lb_laws_markOutPushSS_0, hi, hl, h2, hw, hp', hc, hev])
    (fun id ver n k σ hg => by
      unfold Good at hg
      rw [l_laws_markOutPushSS_0]
      simp [lb_laws_markOutPushSS_0, tl_laws_markOutPushSS, hg])
    (fun k σ hg => by
      unfold Good at hg
      refine go_laws_markOutPushSS (by simp) ?_
      simp [ac_laws_markOutPushSS, l_laws_markOutPushSS_0, lb_laws_markOutPushSS_0, hg])
    (fun σ ids p x h => ⟨(own_one h).2.1, (own_one h).2.2.1⟩)

def tl_laws_heldOutPushSS : AC := (.ghost (.kill [0, 5]) (.seq (.post (.reg [⟨(some 20), .op (.mv (.tmp 1)), none⟩,
    ⟨(some 4), .op (.mv (.tmp 20)), none⟩]) (.kill [1, 20]))
  .ret))
theorem heldC_OutPushSS : HeldC (α := List (List GOutPush)) fns i_laws_heldOutPushSS (sumW (fun xs : List GOutPush => 3 * xs.length)) (mkL (fun xs : List GOutPush => 3 * xs.length) (mkF 3 (fun k => (⟨k, k + 1, mtext (k + 2)⟩ : GOutPush)))) :=
  heldC_list heldC_OutPushS (fun ys i k => rE fns fa_laws_heldOutPushSS 0 [.code lo_laws_heldOutPushSS_0, .inBlock 0, .code tl_laws_heldOutPushSS] [(5, i64 (i : Nat)), (1, i64 k), (0, lst 1 ys)] [])
    (fun ys k r h => by
      refine go_laws_heldOutPushSS (by simp) ?_
      simp [tl_laws_heldOutPushSS] at h
      simp [ac_laws_heldOutPushSS, h])
    (fun ys i k k' h hk hl hev => by
      have hw := wrap_i64 (n := i + 1) (by omega)
      simp at hev
      rw [l_laws_heldOutPushSS_0]
      simp [lb_laws_heldOutPushSS_0, h, hw, hev, show ¬ (k' < 0) by omega])
    (fun ys k => by
      rw [l_laws_heldOutPushSS_0]
      simp [lb_laws_heldOutPushSS_0, tl_laws_heldOutPushSS])

instance : Own GOutMove := ⟨.any, 2, fun _ ids p x => ids = [] ∧ p = Enc.pv x, fun h _ => h, fun {σ ids p x} h d hd => by
  obtain ⟨d, rfl⟩ : ∃ e, d = e + 2 := ⟨d - 2, by omega⟩
  exact ⟨p, by rw [h.2]; exact PV.flat_dfr (Enc.flat x) σ d, by simp [h.2]⟩,
  fun {σ} τ {ids p x} h => ⟨by simp [h.1], by rw [h.2]; simp [PV.sh, PV.shs]⟩, fun h _ => by rw [h.2]; simp [PV.bel, PV.bels], fun h => by rw [h.2]; simp [PV.nl, PV.nls]⟩
theorem own_OutMove {σ : List AObj} {ids : List Nat} {p : PV} {x : GOutMove} : Own.own σ ids p x ↔ ids = [] ∧ p = x.v := Iff.rfl
instance : Flat GOutMove := ⟨fun {σ ids p x} => Iff.rfl⟩
theorem lo_laws_toOutMoveS (ls : List GOutMove) (hl : Siz.size ls ≤ 1048576) (ks : List KI) : ∀ suf pre, ls = pre ++ suf →
    rE fns fa_laws_toOutMoveS 0 (.code lo_laws_toOutMoveS_0 :: .inBlock 0 :: ks) [(4, i64 pre.length), (3, .own 0 0 0 ls.length), (0, lst 2 ls)] [.row 2 (pre.map Enc.pv ++ List.replicate suf.length (.agg [.val (.int .i64 0), .val (.string ⟨#[]⟩)])) 0] =
      rE fns fa_laws_toOutMoveS 0 ks [(3, .own 0 0 0 ls.length)] [.row 2 (ls.map Enc.pv) 0] := by
  have hl1 := Siz.len_le ls
  intro suf
  induction suf with
  | nil =>
    intro pre h
    simp at h; subst h
    rw [l_laws_toOutMoveS_0]
    simp [lb_laws_toOutMoveS_0]
  | cons x suf ih =>
    intro pre h
    rw [l_laws_toOutMoveS_0]
    have mm := mid h
    have m1 := mm.1
    have hw := wrap_i64 (n := pre.length + 1) (by omega)
    have hle : pre.length + (suf.length + 1) ≤ ls.length := by simp [h]
    have ce := ev_laws_toOutMove x (by have := Siz.mem_le (x := x) (xs := ls) (by simp [h]); omega)
    have ih := ih (pre ++ [x]) (by simp [h])
    simp at ih
    simp [lb_laws_toOutMoveS_0, mm.1, mm.2.2, hw, ce, List.replicate_succ, hle, ih]
theorem ev_laws_toOutMoveS (a : List GOutMove) (h : Siz.size a ≤ 1048576) : ev fns i_laws_toOutMoveS [lst 2 a] [] = some (.own 0 0 0 a.length, [.row 2 (a.map Enc.pv) 0]) := by
  have hl := Siz.len_le a
  refine go_laws_toOutMoveS (by simp) ?_
  have h1 : (a.length : Int) * 40 ≤ 281474976710656 ∧ (a.length : Int) * 32 ≤ 281474976710656 ∧ (a.length : Int) * 24 ≤ 281474976710656 ∧ (a.length : Int) * 16 ≤ 281474976710656 ∧ (a.length : Int) * 8 ≤ 281474976710656 ∧ (a.length : Int) ≤ 281474976710656 ∧ a.length ≤ 140737488355328 := by omega
  have lo := fun ks => lo_laws_toOutMoveS a h ks a [] rfl
  simp at lo
  simp [ac_laws_toOutMoveS, h1, lo]
theorem toC_OutMoveS : ToC (α := List GOutMove) fns i_laws_toOutMoveS Siz.size := by
  intro x hx
  have hl := Siz.len_le x
  exact ⟨_, _, [0], ev_laws_toOutMoveS x hx, ⟨own_flat x rfl (by omega), by simp, by simp⟩, ⟨by simp only [Good, List.length_singleton, objsBel, Bool.and_true]; exact bels_map _ _, by simp only [List.all_cons, List.all_nil, Bool.and_true, AObj.nl, PV.nls_iff]; intro p hp; obtain ⟨y, _, rfl⟩ := List.mem_map.1 hp; simp [PV.nl, PV.nls]⟩, by simp [PV.bel]⟩

def tl_laws_markOutMoveS : AC := (.ghost (.kill [0, 5]) (.seq (.post (.reg [⟨(some 27), .op (.mv (.tmp 1)), none⟩,
    ⟨(some 4), .op (.mv (.tmp 27)), none⟩]) (.kill [1, 27]))
  .ret))
theorem markC_OutMoveS : MarkC (α := List GOutMove) fns i_laws_markOutMoveS (fun xs : List GOutMove => 2 * xs.length) (mkF 2 (fun k => (⟨k, mtext (k + 1)⟩ : GOutMove))) :=
  markC_flat 2 (fun k => (⟨k, mtext (k + 1)⟩ : GOutMove)) (fun n0 id ver n i k σ => rE fns fa_laws_markOutMoveS n0 [.code lo_laws_markOutMoveS_0, .inBlock 0, .code tl_laws_markOutMoveS] [(5, i64 (i : Nat)), (1, i64 k), (0, .own id ver 0 n)] σ)
    (fun id ver n k σ r h => by
      refine go_laws_markOutMoveS (by simp) ?_
      simp [tl_laws_markOutMoveS] at h
      simp [ac_laws_markOutMoveS, h])
    (fun n0 id ver n i k σ xs h hlt h2 hn hb hk hk2 => by
      have hw := wrap_i64 (n := i + 1) (by omega)
      have w1 := wrap_i64 (n := k + 1) (by omega)
      have w2 := wrap_i64 (n := k + 2) (by omega)
      have v1 := wrap_i64 (n := k + 1 + 1) (by omega)
      have u1 : k + 1 + 1 = k + 2 := by omega
      have m1 := ev_laws_markText (k + 1) (by omega)
      simp at m1
      subst hn
      simp at h2
      have hset : ∀ r, (σ.set id r)[id]? = some r := fun r => List.getElem?_set_self hlt
      rw [l_laws_markOutMoveS_0]
      simp [lb_laws_markOutMoveS_0, h, hset, h2, hw, w1, w2, v1, u1, m1, setCells, List.map_set])
    (fun id ver n k σ hg => by
      unfold Good at hg
      rw [l_laws_markOutMoveS_0]
      simp [lb_laws_markOutMoveS_0, tl_laws_markOutMoveS, hg])
    (fun k σ hg => by
      unfold Good at hg
      refine go_laws_markOutMoveS (by simp) ?_
      simp [ac_laws_markOutMoveS, l_laws_markOutMoveS_0, lb_laws_markOutMoveS_0, hg])

def tl_laws_heldOutMoveS : AC := (.ghost (.kill [0, 5]) (.seq (.post (.reg [⟨(some 31), .op (.mv (.tmp 1)), none⟩,
    ⟨(some 4), .op (.mv (.tmp 31)), none⟩]) (.kill [1, 31]))
  .ret))
theorem heldC_OutMoveS : HeldC (α := List GOutMove) fns i_laws_heldOutMoveS (fun xs : List GOutMove => 2 * xs.length) (mkF 2 (fun k => (⟨k, mtext (k + 1)⟩ : GOutMove))) :=
  heldC_flat 2 (fun k => (⟨k, mtext (k + 1)⟩ : GOutMove)) (fun ys i k => rE fns fa_laws_heldOutMoveS 0 [.code lo_laws_heldOutMoveS_0, .inBlock 0, .code tl_laws_heldOutMoveS] [(5, i64 (i : Nat)), (1, i64 k), (0, lst 2 ys)] [])
    (fun ys k r h => by
      refine go_laws_heldOutMoveS (by simp) ?_
      simp [tl_laws_heldOutMoveS] at h
      simp [ac_laws_heldOutMoveS, h])
    (fun ys i k h hk hk2 hl hy => by
      have hw := wrap_i64 (n := i + 1) (by omega)
      have w1 := wrap_i64 (n := k + 1) (by omega)
      have w2 := wrap_i64 (n := k + 2) (by omega)
      have v1 := wrap_i64 (n := k + 1 + 1) (by omega)
      have u1 : k + 1 + 1 = k + 2 := by omega
      have m1 := ev_laws_markText (k + 1) (by omega)
      simp at m1
      rw [l_laws_heldOutMoveS_0]
      simp [lb_laws_heldOutMoveS_0, h, hy, hw, w1, w2, v1, u1, m1])
    (fun ys k => by
      rw [l_laws_heldOutMoveS_0]
      simp [lb_laws_heldOutMoveS_0, tl_laws_heldOutMoveS])

def tl_laws_toOutMoveSS : AC := (.ghost (.kill [0, 4]) (.seq (.post (.reg [⟨(some 22), .op (.mv (.tmp 3)), none⟩,
    ⟨(some 2), .op (.mv (.tmp 22)), none⟩]) (.kill [3, 22]))
  .ret))
theorem toC_OutMoveSS : ToC (α := List (List GOutMove)) fns i_laws_toOutMoveSS Siz.size :=
  toC_list (z := .val (.slice none 0 0)) (fun n => by simp [PV.bel, PV.bels]) (by simp [PV.nl, PV.nls]) toC_OutMoveS (fun x xs h hs => by have := Siz.mem_le h; omega) Siz.len_le
    (fun xs i σ => rE fns fa_laws_toOutMoveSS 0 [.code lo_laws_toOutMoveSS_0, .inBlock 0, .code tl_laws_toOutMoveSS] [(4, i64 i), (3, .own 0 0 0 xs.length), (0, lst 1 xs)] σ)
    (fun xs r hx h => by
      have hl := Siz.len_le xs
      refine go_laws_toOutMoveSS (by simp) ?_
      have h1 : (xs.length : Int) * 40 ≤ 281474976710656 ∧ (xs.length : Int) * 32 ≤ 281474976710656 ∧ (xs.length : Int) * 72 ≤ 281474976710656 ∧ (xs.length : Int) * 24 ≤ 281474976710656 ∧ (xs.length : Int) * 16 ≤ 281474976710656 ∧ (xs.length : Int) * 8 ≤ 281474976710656 ∧ (xs.length : Int) ≤ 281474976710656 ∧ xs.length ≤ 140737488355328 := by omega
      simp [tl_laws_toOutMoveSS] at h
      simp [ac_laws_toOutMoveSS, h1, h])
    (fun xs i σ es q τ h hx h2 hl he hev hq1 hq2 hq3 => by
      have hll := Siz.len_le xs
      have hw := wrap_i64 (n := i + 1) (by omega)
      obtain ⟨ee, he1, he2⟩ := he
      subst he2
      have hqc := PV.sh_cells σ.length q
      rw [hq3] at hqc
      simp at hqc
      have hqo : (q.sh σ.length).okc = true := PV.okc_sh hq2 hq3
      cases σ with
      | nil => simp at h2
      | cons r0_ σt =>
      simp at h2
      subst h2
      simp at hev hqo hqc
      have hi' : i < es.length := by omega
      have he2 : es[i] = .val (.slice none 0 0) := by rw [List.getElem?_eq_getElem hi'] at he1; exact Option.some.inj he1
      rw [l_laws_toOutMoveSS_0]
      simp [lb_laws_toOutMoveSS_0, h, hl, hw, hev, he2, hqc, hqo, setCells])
    (fun xs σ es hx h2 hl hg => by
      cases σ with
      | nil => simp at h2
      | cons r0_ σt =>
      simp at h2
      subst h2
      unfold Good at hg
      simp at hg
      rw [l_laws_toOutMoveSS_0]
      simp [lb_laws_toOutMoveSS_0, tl_laws_toOutMoveSS, hg])
    (fun σ ids p x h hb => ⟨(own_one h).1, (own_one h).2.1, (own_one h).2.2.1⟩)

def tl_laws_markOutMoveSS : AC := (.ghost (.kill [0, 5]) (.seq (.post (.reg [⟨(some 18), .op (.mv (.tmp 1)), none⟩,
    ⟨(some 4), .op (.mv (.tmp 18)), none⟩]) (.kill [1, 18]))
  .ret))
theorem markC_OutMoveSS : MarkC (α := List (List GOutMove)) fns i_laws_markOutMoveSS (sumW (fun xs : List GOutMove => 2 * xs.length)) (mkL (fun xs : List GOutMove => 2 * xs.length) (mkF 2 (fun k => (⟨k, mtext (k + 1)⟩ : GOutMove)))) :=
  markC_list markC_OutMoveS (fun n0 id ver n i k σ => rE fns fa_laws_markOutMoveSS n0 [.code lo_laws_markOutMoveSS_0, .inBlock 0, .code tl_laws_markOutMoveSS] [(5, i64 (i : Nat)), (1, i64 k), (0, .own id ver 0 n)] σ)
    (fun id ver n k σ r h => by
      refine go_laws_markOutMoveSS (by simp) ?_
      simp [tl_laws_markOutMoveSS] at h
      simp [ac_laws_markOutMoveSS, h])
    (fun n0 id ver n i k k' σ σ' es p h2 hl hn hi hp ho hc hev => by
      have hw := wrap_i64 (n := i + 1) (by omega)
      have hi' : i < es.length := by omega
      have hp' : es[i] = p := by rw [List.getElem?_eq_getElem hi'] at hp; exact Option.some.inj hp
      simp at h2 hev hc
      rw [l_laws_markOutMoveSS_0]
      simp [lb_laws_markOutMoveSS_0, hi, hl, h2, hw, hp', hc, hev])
    (fun id ver n k σ hg => by
      unfold Good at hg
      rw [l_laws_markOutMoveSS_0]
      simp [lb_laws_markOutMoveSS_0, tl_laws_markOutMoveSS, hg])
    (fun k σ hg => by
      unfold Good at hg
      refine go_laws_markOutMoveSS (by simp) ?_
      simp [ac_laws_markOutMoveSS, l_laws_markOutMoveSS_0, lb_laws_markOutMoveSS_0, hg])
    (fun σ ids p x h => ⟨(own_one h).2.1, (own_one h).2.2.1⟩)

def tl_laws_heldOutMoveSS : AC := (.ghost (.kill [0, 5]) (.seq (.post (.reg [⟨(some 20), .op (.mv (.tmp 1)), none⟩,
    ⟨(some 4), .op (.mv (.tmp 20)), none⟩]) (.kill [1, 20]))
  .ret))
theorem heldC_OutMoveSS : HeldC (α := List (List GOutMove)) fns i_laws_heldOutMoveSS (sumW (fun xs : List GOutMove => 2 * xs.length)) (mkL (fun xs : List GOutMove => 2 * xs.length) (mkF 2 (fun k => (⟨k, mtext (k + 1)⟩ : GOutMove)))) :=
  heldC_list heldC_OutMoveS (fun ys i k => rE fns fa_laws_heldOutMoveSS 0 [.code lo_laws_heldOutMoveSS_0, .inBlock 0, .code tl_laws_heldOutMoveSS] [(5, i64 (i : Nat)), (1, i64 k), (0, lst 1 ys)] [])
    (fun ys k r h => by
      refine go_laws_heldOutMoveSS (by simp) ?_
      simp [tl_laws_heldOutMoveSS] at h
      simp [ac_laws_heldOutMoveSS, h])
    (fun ys i k k' h hk hl hev => by
      have hw := wrap_i64 (n := i + 1) (by omega)
      simp at hev
      rw [l_laws_heldOutMoveSS_0]
      simp [lb_laws_heldOutMoveSS_0, h, hw, hev, show ¬ (k' < 0) by omega])
    (fun ys k => by
      rw [l_laws_heldOutMoveSS_0]
      simp [lb_laws_heldOutMoveSS_0, tl_laws_heldOutMoveSS])

def tl_laws_toOutMoveSSS : AC := (.ghost (.kill [0, 4]) (.seq (.post (.reg [⟨(some 22), .op (.mv (.tmp 3)), none⟩,
    ⟨(some 2), .op (.mv (.tmp 22)), none⟩]) (.kill [3, 22]))
  .ret))
theorem toC_OutMoveSSS : ToC (α := List (List (List GOutMove))) fns i_laws_toOutMoveSSS Siz.size :=
  toC_list (z := .val (.slice none 0 0)) (fun n => by simp [PV.bel, PV.bels]) (by simp [PV.nl, PV.nls]) toC_OutMoveSS (fun x xs h hs => by have := Siz.mem_le h; omega) Siz.len_le
    (fun xs i σ => rE fns fa_laws_toOutMoveSSS 0 [.code lo_laws_toOutMoveSSS_0, .inBlock 0, .code tl_laws_toOutMoveSSS] [(4, i64 i), (3, .own 0 0 0 xs.length), (0, lst 1 xs)] σ)
    (fun xs r hx h => by
      have hl := Siz.len_le xs
      refine go_laws_toOutMoveSSS (by simp) ?_
      have h1 : (xs.length : Int) * 40 ≤ 281474976710656 ∧ (xs.length : Int) * 32 ≤ 281474976710656 ∧ (xs.length : Int) * 72 ≤ 281474976710656 ∧ (xs.length : Int) * 24 ≤ 281474976710656 ∧ (xs.length : Int) * 16 ≤ 281474976710656 ∧ (xs.length : Int) * 8 ≤ 281474976710656 ∧ (xs.length : Int) ≤ 281474976710656 ∧ xs.length ≤ 140737488355328 := by omega
      simp [tl_laws_toOutMoveSSS] at h
      simp [ac_laws_toOutMoveSSS, h1, h])
    (fun xs i σ es q τ h hx h2 hl he hev hq1 hq2 hq3 => by
      have hll := Siz.len_le xs
      have hw := wrap_i64 (n := i + 1) (by omega)
      obtain ⟨ee, he1, he2⟩ := he
      subst he2
      have hqc := PV.sh_cells σ.length q
      rw [hq3] at hqc
      simp at hqc
      have hqo : (q.sh σ.length).okc = true := PV.okc_sh hq2 hq3
      cases σ with
      | nil => simp at h2
      | cons r0_ σt =>
      simp at h2
      subst h2
      simp at hev hqo hqc
      have hi' : i < es.length := by omega
      have he2 : es[i] = .val (.slice none 0 0) := by rw [List.getElem?_eq_getElem hi'] at he1; exact Option.some.inj he1
      rw [l_laws_toOutMoveSSS_0]
      simp [lb_laws_toOutMoveSSS_0, h, hl, hw, hev, he2, hqc, hqo, setCells])
    (fun xs σ es hx h2 hl hg => by
      cases σ with
      | nil => simp at h2
      | cons r0_ σt =>
      simp at h2
      subst h2
      unfold Good at hg
      simp at hg
      rw [l_laws_toOutMoveSSS_0]
      simp [lb_laws_toOutMoveSSS_0, tl_laws_toOutMoveSSS, hg])
    (fun σ ids p x h hb => ⟨(own_one h).1, (own_one h).2.1, (own_one h).2.2.1⟩)

def tl_laws_markOutMoveSSS : AC := (.ghost (.kill [0, 5]) (.seq (.post (.reg [⟨(some 18), .op (.mv (.tmp 1)), none⟩,
    ⟨(some 4), .op (.mv (.tmp 18)), none⟩]) (.kill [1, 18]))
  .ret))
theorem markC_OutMoveSSS : MarkC (α := List (List (List GOutMove))) fns i_laws_markOutMoveSSS (sumW (sumW (fun xs : List GOutMove => 2 * xs.length))) (mkL (sumW (fun xs : List GOutMove => 2 * xs.length)) (mkL (fun xs : List GOutMove => 2 * xs.length) (mkF 2 (fun k => (⟨k, mtext (k + 1)⟩ : GOutMove))))) :=
  markC_list markC_OutMoveSS (fun n0 id ver n i k σ => rE fns fa_laws_markOutMoveSSS n0 [.code lo_laws_markOutMoveSSS_0, .inBlock 0, .code tl_laws_markOutMoveSSS] [(5, i64 (i : Nat)), (1, i64 k), (0, .own id ver 0 n)] σ)
    (fun id ver n k σ r h => by
      refine go_laws_markOutMoveSSS (by simp) ?_
      simp [tl_laws_markOutMoveSSS] at h
      simp [ac_laws_markOutMoveSSS, h])
    (fun n0 id ver n i k k' σ σ' es p h2 hl hn hi hp ho hc hev => by
      have hw := wrap_i64 (n := i + 1) (by omega)
      have hi' : i < es.length := by omega
      have hp' : es[i] = p := by rw [List.getElem?_eq_getElem hi'] at hp; exact Option.some.inj hp
      simp at h2 hev hc
      rw [l_laws_markOutMoveSSS_0]
      simp [lb_laws_markOutMoveSSS_0, hi, hl, h2, hw, hp', hc, hev])
    (fun id ver n k σ hg => by
      unfold Good at hg
      rw [l_laws_markOutMoveSSS_0]
      simp [lb_laws_markOutMoveSSS_0, tl_laws_markOutMoveSSS, hg])
    (fun k σ hg => by
      unfold Good at hg
      refine go_laws_markOutMoveSSS (by simp) ?_
      simp [ac_laws_markOutMoveSSS, l_laws_markOutMoveSSS_0, lb_laws_markOutMoveSSS_0, hg])
    (fun σ ids p x h => ⟨(own_one h).2.1, (own_one h).2.2.1⟩)

def tl_laws_heldOutMoveSSS : AC := (.ghost (.kill [0, 5]) (.seq (.post (.reg [⟨(some 20), .op (.mv (.tmp 1)), none⟩,
    ⟨(some 4), .op (.mv (.tmp 20)), none⟩]) (.kill [1, 20]))
  .ret))
theorem heldC_OutMoveSSS : HeldC (α := List (List (List GOutMove))) fns i_laws_heldOutMoveSSS (sumW (sumW (fun xs : List GOutMove => 2 * xs.length))) (mkL (sumW (fun xs : List GOutMove => 2 * xs.length)) (mkL (fun xs : List GOutMove => 2 * xs.length) (mkF 2 (fun k => (⟨k, mtext (k + 1)⟩ : GOutMove))))) :=
  heldC_list heldC_OutMoveSS (fun ys i k => rE fns fa_laws_heldOutMoveSSS 0 [.code lo_laws_heldOutMoveSSS_0, .inBlock 0, .code tl_laws_heldOutMoveSSS] [(5, i64 (i : Nat)), (1, i64 k), (0, lst 1 ys)] [])
    (fun ys k r h => by
      refine go_laws_heldOutMoveSSS (by simp) ?_
      simp [tl_laws_heldOutMoveSSS] at h
      simp [ac_laws_heldOutMoveSSS, h])
    (fun ys i k k' h hk hl hev => by
      have hw := wrap_i64 (n := i + 1) (by omega)
      simp at hev
      rw [l_laws_heldOutMoveSSS_0]
      simp [lb_laws_heldOutMoveSSS_0, h, hw, hev, show ¬ (k' < 0) by omega])
    (fun ys k => by
      rw [l_laws_heldOutMoveSSS_0]
      simp [lb_laws_heldOutMoveSSS_0, tl_laws_heldOutMoveSSS])

def ownRewriter (σ : List AObj) (ids : List Nat) (p : PV) (x : GRewriter) : Prop := ∃ i0 p0 i1 p1 i2 p2 i3 p3 i4 p4, ids = i0 ++ i1 ++ i2 ++ i3 ++ i4 ∧ p = .agg [p0, p1, p2, p3, p4] ∧ Own.own σ i0 p0 x.stack ∧ Own.own σ i1 p1 x.start ∧ Own.own σ i2 p2 x.call ∧ Own.own σ i3 p3 x.ret ∧ Own.own σ i4 p4 x.inner
instance : Own GRewriter := ⟨.agg [Own.sh (Int), Own.sh (Int), Own.sh (List (List GOutPush)), Own.sh (List (List (List GOutMove))), Own.sh (List (List GOutMove))], max (Own.dep (Int)) (max (Own.dep (Int)) (max (Own.dep (List (List GOutPush))) (max (Own.dep (List (List (List GOutMove)))) (Own.dep (List (List GOutMove)))))) + 1, ownRewriter,
  fun {σ σ' ids p x} h k => by
    obtain ⟨i0, p0, i1, p1, i2, p2, i3, p3, i4, p4, rfl, rfl, h0, h1, h2, h3, h4⟩ := h
    exact ⟨i0, p0, i1, p1, i2, p2, i3, p3, i4, p4, rfl, rfl, Own.frame h0 fun i hi => k i (by simp [hi]), Own.frame h1 fun i hi => k i (by simp [hi]), Own.frame h2 fun i hi => k i (by simp [hi]), Own.frame h3 fun i hi => k i (by simp [hi]), Own.frame h4 fun i hi => k i (by simp [hi])⟩,
  fun {σ ids p x} h d hd => by
    obtain ⟨d, rfl⟩ : ∃ e, d = e + 1 := ⟨d - 1, by omega⟩
    obtain ⟨i0, p0, i1, p1, i2, p2, i3, p3, i4, p4, rfl, rfl, h0, h1, h2, h3, h4⟩ := h
    obtain ⟨q0, e0, f0⟩ := Own.read h0 d (by omega)
    obtain ⟨q1, e1, f1⟩ := Own.read h1 d (by omega)
    obtain ⟨q2, e2, f2⟩ := Own.read h2 d (by omega)
    obtain ⟨q3, e3, f3⟩ := Own.read h3 d (by omega)
    obtain ⟨q4, e4, f4⟩ := Own.read h4 d (by omega)
    refine ⟨.agg [q0, q1, q2, q3, q4], by simp [dfr, mapO, e0, e1, e2, e3, e4], ?_⟩
    simp only [PV.ty_agg, PV.tys, f0, f1, f2, f3, f4]; rfl,
  fun {σ} τ {ids p x} h => by
    obtain ⟨i0, p0, i1, p1, i2, p2, i3, p3, i4, p4, rfl, rfl, h0, h1, h2, h3, h4⟩ := h
    exact ⟨i0.map (· + τ.length), p0.sh τ.length, i1.map (· + τ.length), p1.sh τ.length, i2.map (· + τ.length), p2.sh τ.length, i3.map (· + τ.length), p3.sh τ.length, i4.map (· + τ.length), p4.sh τ.length, by simp, by simp [PV.sh, PV.shs], Own.shift τ h0, Own.shift τ h1, Own.shift τ h2, Own.shift τ h3, Own.shift τ h4⟩,
  fun {σ n ids p x} h k => by
    obtain ⟨i0, p0, i1, p1, i2, p2, i3, p3, i4, p4, rfl, rfl, h0, h1, h2, h3, h4⟩ := h
    simp only [PV.bel, PV.bels, Own.bel h0 fun i hi => k i (by simp [hi]), Own.bel h1 fun i hi => k i (by simp [hi]), Own.bel h2 fun i hi => k i (by simp [hi]), Own.bel h3 fun i hi => k i (by simp [hi]), Own.bel h4 fun i hi => k i (by simp [hi]), Bool.and_self],
  fun {σ ids p x} h => by
    obtain ⟨i0, p0, i1, p1, i2, p2, i3, p3, i4, p4, rfl, rfl, h0, h1, h2, h3, h4⟩ := h
    simp only [PV.nl, PV.nls, Own.nl h0, Own.nl h1, Own.nl h2, Own.nl h3, Own.nl h4, Bool.and_self]⟩

theorem own_Rewriter {σ : List AObj} {ids : List Nat} {p : PV} {x : GRewriter} : Own.own σ ids p x ↔ ownRewriter σ ids p x := Iff.rfl
theorem toC_Rewriter : ToC (α := GRewriter) fns i_laws_toRewriter Siz.size := by
  intro x hx
  rw [size_Rewriter] at hx
  obtain ⟨q2, σ2, d2, c2, o2, lo2, ⟨m2, x2⟩, z2, nl2, g2, n2⟩ := ToC.call toC_OutPushSS x.call (by omega) [] (by simp [objsBel]) (by simp)
  obtain ⟨q3, σ3, d3, c3, o3, lo3, ⟨m3, x3⟩, z3, nl3, g3, n3⟩ := ToC.call toC_OutMoveSSS x.ret (by omega) σ2 g2 n2
  obtain ⟨q4, σ4, d4, c4, o4, lo4, ⟨m4, x4⟩, z4, nl4, g4, n4⟩ := ToC.call toC_OutMoveSS x.inner (by omega) σ3 g3 n3
  have w2 : ∀ r0 r1, OwnIn (r0 :: r1 :: σ4) d2 q2 x.call := fun r0 r1 => by
    have h := (o2 r0 r1).grow (m3 ++ m4)
    have e : r0 :: r1 :: σ4 = (r0 :: r1 :: σ2) ++ (m3 ++ m4) := by rw [x4, x3]; simp
    rw [e]; exact h
  have y2 : PV.bel (σ4.length + 1 + 1) q2 = true := by have := (w2 (.row 0 [] 0) (.row 0 [] 0)).bel; simpa using this
  have ln2 : σ2.length ≤ σ4.length := by rw [x4, x3]; simp; try omega
  have w3 : ∀ r0 r1, OwnIn (r0 :: r1 :: σ4) d3 q3 x.ret := fun r0 r1 => by
    have h := (o3 r0 r1).grow (m4)
    have e : r0 :: r1 :: σ4 = (r0 :: r1 :: σ3) ++ (m4) := by rw [x4]; simp
    rw [e]; exact h
  have y3 : PV.bel (σ4.length + 1 + 1) q3 = true := by have := (w3 (.row 0 [] 0) (.row 0 [] 0)).bel; simpa using this
  have ln3 : σ3.length ≤ σ4.length := by rw [x4]; simp; try omega
  have w4 : ∀ r0 r1, OwnIn (r0 :: r1 :: σ4) d4 q4 x.inner := fun r0 r1 => by
    exact o4 r0 r1
  have y4 : PV.bel (σ4.length + 1 + 1) q4 = true := by have := (w4 (.row 0 [] 0) (.row 0 [] 0)).bel; simpa using this
  have ln4 : σ4.length ≤ σ4.length := by exact Nat.le_refl _
  simp [-callN] at c2 c3 c4
  have kc2 := (own_one (o2 (.row 0 [] 0) (.row 0 [] 0)).own).2.2.1
  have ko2 := (own_one (o2 (.row 0 [] 0) (.row 0 [] 0)).own).2.1
  have kn2 := (own_one (o2 (.row 0 [] 0) (.row 0 [] 0)).own).2.2.2
  have kc3 := (own_one (o3 (.row 0 [] 0) (.row 0 [] 0)).own).2.2.1
  have ko3 := (own_one (o3 (.row 0 [] 0) (.row 0 [] 0)).own).2.1
  have kn3 := (own_one (o3 (.row 0 [] 0) (.row 0 [] 0)).own).2.2.2
  have kc4 := (own_one (o4 (.row 0 [] 0) (.row 0 [] 0)).own).2.2.1
  have ko4 := (own_one (o4 (.row 0 [] 0) (.row 0 [] 0)).own).2.1
  have kn4 := (own_one (o4 (.row 0 [] 0) (.row 0 [] 0)).own).2.2.2
  simp at kc2 ko2 kn2 kc3 ko3 kn3 kc4 ko4 kn4
  refine ⟨.agg [Enc.pv x.stack, Enc.pv x.start, q2, q3, q4], .row 5 [.agg [Enc.pv x.stack, Enc.pv x.start, q2, q3, q4]] 0 :: .row 5 [.agg [Enc.pv x.stack, Enc.pv x.start, q2, q3, q4]] 0 :: σ4, [] ++ [] ++ d2 ++ d3 ++ d4, ?_, ⟨⟨[], Enc.pv x.stack, [], Enc.pv x.start, d2, q2, d3, q3, d4, q4, rfl, rfl, ⟨rfl, rfl⟩, ⟨rfl, rfl⟩, (w2 _ _).own, (w3 _ _).own, (w4 _ _).own⟩, ?_, ?_⟩, ⟨?_, ?_⟩, ?_⟩
  · refine go_laws_toRewriter (by simp) ?_
    simp [-callN, ac_laws_toRewriter, c2, kc2, ko2, kn2, c3, kc3, ko3, kn3, c4, kc4, ko4, kn4, setCells, z2, y2, z3, y3, z4, y4, g4]
  · have a2 := (w2 (.row 0 [] 0) (.row 0 [] 0)).nd
    have b2 := (o2 (.row 0 [] 0) (.row 0 [] 0)).lt
    simp only [List.length_cons] at b2
    have a3 := (w3 (.row 0 [] 0) (.row 0 [] 0)).nd
    have b3 := (o3 (.row 0 [] 0) (.row 0 [] 0)).lt
    simp only [List.length_cons] at b3
    have a4 := (w4 (.row 0 [] 0) (.row 0 [] 0)).nd
    have b4 := (o4 (.row 0 [] 0) (.row 0 [] 0)).lt
    simp only [List.length_cons] at b4
    have le3 : σ2.length ≤ σ3.length := by rw [x3]; simp
    have le4 : σ3.length ≤ σ4.length := by rw [x4]; simp
    simp only [List.nodup_append, List.mem_append, List.nil_append, List.append_nil]
    grind
  · intro j hj
    have a2 := (w2 (.row 0 [] 0) (.row 0 [] 0)).nd
    have b2 := (o2 (.row 0 [] 0) (.row 0 [] 0)).lt
    simp only [List.length_cons] at b2
    have a3 := (w3 (.row 0 [] 0) (.row 0 [] 0)).nd
    have b3 := (o3 (.row 0 [] 0) (.row 0 [] 0)).lt
    simp only [List.length_cons] at b3
    have a4 := (w4 (.row 0 [] 0) (.row 0 [] 0)).nd
    have b4 := (o4 (.row 0 [] 0) (.row 0 [] 0)).lt
    simp only [List.length_cons] at b4
    simp only [List.mem_append, List.nil_append, List.append_nil] at hj
    simp only [List.length_cons]
    grind
  · simp [Good, objsBel, PV.bels, PV.bel, y2, y3, y4, g4]
  · have h := List.all_eq_true.1 n4
    simp [AObj.nl, PV.nls, PV.nl, nl2, nl3, nl4]
    exact h
  · simp [PV.bel, PV.bels, z2, z3, z4]

def wRewriter (x : GRewriter) : Nat := (sumW (fun xs : List GOutPush => 3 * xs.length)) x.call + (sumW (sumW (fun xs : List GOutMove => 2 * xs.length))) x.ret + (sumW (fun xs : List GOutMove => 2 * xs.length)) x.inner
def mkRewriter (x : GRewriter) (k : Int) : GRewriter := ⟨x.stack, x.start, (mkL (fun xs : List GOutPush => 3 * xs.length) (mkF 3 (fun k => (⟨k, k + 1, mtext (k + 2)⟩ : GOutPush)))) x.call (k), (mkL (sumW (fun xs : List GOutMove => 2 * xs.length)) (mkL (fun xs : List GOutMove => 2 * xs.length) (mkF 2 (fun k => (⟨k, mtext (k + 1)⟩ : GOutMove))))) x.ret (k + ((sumW (fun xs : List GOutPush => 3 * xs.length)) x.call : Nat)), (mkL (fun xs : List GOutMove => 2 * xs.length) (mkF 2 (fun k => (⟨k, mtext (k + 1)⟩ : GOutMove)))) x.inner (k + ((sumW (fun xs : List GOutPush => 3 * xs.length)) x.call : Nat) + ((sumW (sumW (fun xs : List GOutMove => 2 * xs.length))) x.ret : Nat))⟩
theorem markC_Rewriter : MarkC (α := GRewriter) fns i_laws_markRewriter wRewriter mkRewriter := by
  intro σ ids p x k h hg hk hk2
  obtain ⟨i0, p0, i1, p1, i2, p2, i3, p3, i4, p4, rfl, rfl, ⟨rfl, rfl⟩, ⟨rfl, rfl⟩, h2, h3, h4⟩ := h.own
  have nd := h.nd
  have lt := h.lt
  have hbel := h.bel
  simp only [wRewriter, Int.natCast_add] at hk2 ⊢
  simp only [List.nodup_append, List.mem_append, List.append_assoc, List.nil_append, List.append_nil] at nd lt
  have hg0 : Good (σ ++ [AObj.row 5 [PV.agg [Enc.pv x.stack, Enc.pv x.start, p2, p3, p4]] 0]) := by
    unfold Good
    rw [List.length_append]
    refine objsBel_app (objsBel_mono (by omega) hg) ?_
    simp only [objsBel, PV.bels, Bool.and_true]
    exact PV.bel_le (by omega) hbel
  have y : (σ ++ [AObj.row 5 [PV.agg [Enc.pv x.stack, Enc.pv x.start, p2, p3, p4]] 0])[σ.length]? = some (AObj.row 5 [PV.agg [Enc.pv x.stack, Enc.pv x.start, p2, p3, p4]] 0) := by simp
  have h2 := (OwnIn.grow [AObj.row 5 [PV.agg [Enc.pv x.stack, Enc.pv x.start, p2, p3, p4]] 0] (⟨h2, by grind, fun j hj => lt j (by grind)⟩ : OwnIn σ i2 p2 x.call)).own
  have h3 := (OwnIn.grow [AObj.row 5 [PV.agg [Enc.pv x.stack, Enc.pv x.start, p2, p3, p4]] 0] (⟨h3, by grind, fun j hj => lt j (by grind)⟩ : OwnIn σ i3 p3 x.ret)).own
  have h4 := (OwnIn.grow [AObj.row 5 [PV.agg [Enc.pv x.stack, Enc.pv x.start, p2, p3, p4]] 0] (⟨h4, by grind, fun j hj => lt j (by grind)⟩ : OwnIn σ i4 p4 x.inner)).own
  have o2 : OwnIn (σ ++ [AObj.row 5 [PV.agg [Enc.pv x.stack, Enc.pv x.start, p2, p3, p4]] 0]) i2 p2 x.call := ⟨h2, by grind, fun j hj => by rw [List.length_append]; have := lt j (by grind); omega⟩
  obtain ⟨σ2, e2, n2, l2, k2, g2, t2⟩ := markC_OutPushSS (σ ++ [AObj.row 5 [PV.agg [Enc.pv x.stack, Enc.pv x.start, p2, p3, p4]] 0]) i2 p2 x.call (k) o2 hg0 (by first | omega | (dsimp only; omega)) (by first | omega | (dsimp only; omega))
  have y2 : σ2[σ.length]? = some (AObj.row 5 [PV.agg [Enc.pv x.stack, Enc.pv x.start, p2, p3, p4]] 0) := by rw [k2 σ.length fun hj => by have := lt σ.length (by grind); omega]; exact y
  have f3 := Own.frame h3 (σ' := σ2) fun j hj => k2 j (by grind)
  have f4 := Own.frame h4 (σ' := σ2) fun j hj => k2 j (by grind)
  have q2 := n2.own
  have o3 : OwnIn σ2 i3 p3 x.ret := ⟨f3, by grind, fun j hj => by rw [l2]; rw [List.length_append]; have := lt j (by grind); omega⟩
  obtain ⟨σ3, e3, n3, l3, k3, g3, t3⟩ := markC_OutMoveSSS σ2 i3 p3 x.ret (k + ((sumW (fun xs : List GOutPush => 3 * xs.length)) x.call : Nat)) o3 g2 (by first | omega | (dsimp only; omega)) (by first | omega | (dsimp only; omega))
  have y3 : σ3[σ.length]? = some (AObj.row 5 [PV.agg [Enc.pv x.stack, Enc.pv x.start, p2, p3, p4]] 0) := by rw [k3 σ.length fun hj => by have := lt σ.length (by grind); omega]; exact y2
  have q2 := Own.frame q2 (σ' := σ3) fun j hj => k3 j (by grind)
  have f4 := Own.frame f4 (σ' := σ3) fun j hj => k3 j (by grind)
  have q3 := n3.own
  have o4 : OwnIn σ3 i4 p4 x.inner := ⟨f4, by grind, fun j hj => by rw [l3, l2]; rw [List.length_append]; have := lt j (by grind); omega⟩
  obtain ⟨σ4, e4, n4, l4, k4, g4, t4⟩ := markC_OutMoveSS σ3 i4 p4 x.inner (k + ((sumW (fun xs : List GOutPush => 3 * xs.length)) x.call : Nat) + ((sumW (sumW (fun xs : List GOutMove => 2 * xs.length))) x.ret : Nat)) o4 g3 (by first | omega | (dsimp only; omega)) (by first | omega | (dsimp only; omega))
  have y4 : σ4[σ.length]? = some (AObj.row 5 [PV.agg [Enc.pv x.stack, Enc.pv x.start, p2, p3, p4]] 0) := by rw [k4 σ.length fun hj => by have := lt σ.length (by grind); omega]; exact y3
  have q2 := Own.frame q2 (σ' := σ4) fun j hj => k4 j (by grind)
  have q3 := Own.frame q3 (σ' := σ4) fun j hj => k4 j (by grind)
  have q4 := n4.own
  have ll : σ4.length = σ.length + 1 := by rw [l4, l3, l2, List.length_append]; rfl
  have tk : TkB (σ ++ [AObj.row 5 [PV.agg [Enc.pv x.stack, Enc.pv x.start, p2, p3, p4]] 0]) σ4 := ((t2.trans t3).trans t4)
  have gt : objsBel σ.length (σ4.take σ.length) = true := tk σ.length σ.length (by rw [List.take_left]; exact hg)
  have fr : ∀ {u : Nat}, u < σ.length → (σ4.take σ.length)[u]? = σ4[u]? := fun hu => by rw [List.getElem?_take]; simp [hu]
  have q2 := Own.frame q2 (σ' := σ4.take σ.length) fun j hj => fr (lt j (by grind))
  have q3 := Own.frame q3 (σ' := σ4.take σ.length) fun j hj => fr (lt j (by grind))
  have q4 := Own.frame q4 (σ' := σ4.take σ.length) fun j hj => fr (lt j (by grind))
  refine ⟨σ4.take σ.length, ?_, ⟨⟨[], _, [], _, i2, p2, i3, p3, i4, p4, rfl, rfl, ⟨rfl, rfl⟩, ⟨rfl, rfl⟩, q2, q3, q4⟩, h.nd, fun j hj => ?_⟩, ?_, fun j hj => ?_, ?_, ?_⟩
  · refine go_laws_markRewriter (by simp) ?_
    unfold Good at g4
    have kn2 := (own_one h2).2.2.2
    have kn3 := (own_one h3).2.2.2
    have kn4 := (own_one h4).2.2.2
    simp at e2 kn2 e3 kn3 e4 kn4
    simp [ac_laws_markRewriter, e2, kn2, y2, e3, kn3, y3, e4, kn4, y4, g4, ll, gt]
    try first | omega | (congr 4; omega)
  · rw [List.length_take, ll]; have := h.lt j hj; omega
  · rw [List.length_take, ll]; omega
  · simp only [List.mem_append, List.append_assoc] at hj
    by_cases hl : j < σ.length
    · rw [fr hl, k4 j (by grind), k3 j (by grind), k2 j (by grind), List.getElem?_append_left hl]
    · rw [List.getElem?_eq_none (by rw [List.length_take, ll]; omega), List.getElem?_eq_none (by omega)]
  · unfold Good; rw [List.length_take, ll, show min σ.length (σ.length + 1) = σ.length by omega]; exact gt
  · intro m l hm
    rw [List.take_take]
    refine tk m _ ?_
    rw [List.take_append_of_le_length (by omega)]
    by_cases hl : l ≤ σ.length
    · rw [show min l σ.length = l by omega]; exact hm
    · rw [show min l σ.length = σ.length by omega, List.take_length]; rwa [List.take_of_length_le (by omega)] at hm

theorem heldC_Rewriter : HeldC (α := GRewriter) fns i_laws_heldRewriter wRewriter mkRewriter := by
  intro σ ids p x k ho hk hk2
  obtain ⟨i0, p0, i1, p1, i2, p2, i3, p3, i4, p4, rfl, rfl, h0, h1, h2, h3, h4⟩ := ho
  simp only [wRewriter, Int.natCast_add] at hk2 ⊢
  have e2 := heldC_OutPushSS σ i2 p2 x.call (k) h2 (by first | omega | (dsimp only; omega)) (by first | omega | (dsimp only; omega))
  have e3 := heldC_OutMoveSSS σ i3 p3 x.ret (k + ((sumW (fun xs : List GOutPush => 3 * xs.length)) x.call : Nat)) h3 (by first | omega | (dsimp only; omega)) (by first | omega | (dsimp only; omega))
  have e4 := heldC_OutMoveSS σ i4 p4 x.inner (k + ((sumW (fun xs : List GOutPush => 3 * xs.length)) x.call : Nat) + ((sumW (sumW (fun xs : List GOutMove => 2 * xs.length))) x.ret : Nat)) h4 (by first | omega | (dsimp only; omega)) (by first | omega | (dsimp only; omega))
  refine go_laws_heldRewriter (by simp) ?_
  simp at e2 e3 e4
  simp [ac_laws_heldRewriter, mkRewriter, e2, e3, e4, show ¬ (k + ((sumW (fun xs : List GOutPush => 3 * xs.length)) x.call : Nat) < 0) by omega, show ¬ (k + ((sumW (fun xs : List GOutPush => 3 * xs.length)) x.call : Nat) + ((sumW (sumW (fun xs : List GOutMove => 2 * xs.length))) x.ret : Nat) < 0) by omega, show ¬ (k + ((sumW (fun xs : List GOutPush => 3 * xs.length)) x.call : Nat) + ((sumW (sumW (fun xs : List GOutMove => 2 * xs.length))) x.ret : Nat) + ((sumW (fun xs : List GOutMove => 2 * xs.length)) x.inner : Nat) < 0) by omega]
  all_goals first | omega | (intros; omega)

end Go.Proofs.Ytjfpmpbdbpgofaa
