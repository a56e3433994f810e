/- Owned data of the laws' types: made, marked and held; printed by a program (mk.py). -/
import Derived.Test.YtoliadfdklfmfaaDat
import Derived.Test.YtoliadfdklfmfaaAw35
set_option linter.unusedVariables false
set_option linter.unusedSimpArgs false
set_option maxRecDepth 100000
namespace Go.Proofs.Ytoliadfdklfmfaa
open Aw

theorem own_one {α : Type} [Enc α] [Own α] {σ : List AObj} {ids : List Nat} {p : PV} {xs : List α} (h : Own.own σ ids p xs) : p.cells.length = 1 ∧ p.okc = true ∧ p.cells = [p] ∧ p.one = true := by
  rcases h with ⟨rfl, rfl, rfl⟩ | ⟨id, ver, es, is, rfl, _⟩ <;> simp [PV.cells, PV.okc, PV.one, Value.oneCell']
theorem PV.one_sh {p : PV} (k : Nat) (h : p.one = true) : (p.sh k).one = true := by
  cases p <;> simp_all [PV.one, PV.sh]
theorem PV.okc_sh {p : PV} {k : Nat} (h : p.okc = true) (hc : p.cells = [p]) : (p.sh k).okc = true := by
  cases p with
  | agg ps =>
    simp only [PV.cells] at hc
    have h1 : ps.length = 1 := by rw [hc]; rfl
    match ps, h1 with
    | [q], _ => simp at hc; have := congrArg SizeOf.sizeOf hc; simp at this; omega
  | _ => simp_all [PV.sh, PV.okc, PV.one]

theorem lo_laws_toBoolS (ls : List Bool) (hl : Siz.size ls ≤ 1048576) (ks : List KI) : ∀ suf pre, ls = pre ++ suf →
    rE fns fa_laws_toBoolS 0 (.code lo_laws_toBoolS_0 :: .inBlock 0 :: ks) [(4, i64 pre.length), (3, .own 0 0 0 ls.length), (0, lst 1 ls)] [.row 1 (pre.map Enc.pv ++ List.replicate suf.length (.val (.bool false))) 0] =
      rE fns fa_laws_toBoolS 0 ks [(3, .own 0 0 0 ls.length)] [.row 1 (ls.map Enc.pv) 0] := by
  have hl1 := Siz.len_le ls
  intro suf
  induction suf with
  | nil =>
    intro pre h
    simp at h; subst h
    rw [l_laws_toBoolS_0]
    simp [lb_laws_toBoolS_0]
  | cons x suf ih =>
    intro pre h
    rw [l_laws_toBoolS_0]
    have mm := mid h
    have m1 := mm.1
    have hw := wrap_i64 (n := pre.length + 1) (by omega)
    have hle : pre.length + (suf.length + 1) ≤ ls.length := by simp [h]
    have ih := ih (pre ++ [x]) (by simp [h])
    simp at ih
    simp [lb_laws_toBoolS_0, mm.1, mm.2.2, hw, List.replicate_succ, hle, ih]
theorem ev_laws_toBoolS (a : List Bool) (h : Siz.size a ≤ 1048576) : ev fns i_laws_toBoolS [lst 1 a] [] = some (.own 0 0 0 a.length, [.row 1 (a.map Enc.pv) 0]) := by
  have hl := Siz.len_le a
  refine go_laws_toBoolS (by simp) ?_
  have h1 : (a.length : Int) * 40 ≤ 281474976710656 ∧ (a.length : Int) * 32 ≤ 281474976710656 ∧ (a.length : Int) * 24 ≤ 281474976710656 ∧ (a.length : Int) * 16 ≤ 281474976710656 ∧ (a.length : Int) * 8 ≤ 281474976710656 ∧ (a.length : Int) ≤ 281474976710656 ∧ a.length ≤ 140737488355328 := by omega
  have lo := fun ks => lo_laws_toBoolS a h ks a [] rfl
  simp at lo
  simp [ac_laws_toBoolS, h1, lo]
theorem toC_BoolS : ToC (α := List Bool) fns i_laws_toBoolS Siz.size := by
  intro x hx
  have hl := Siz.len_le x
  exact ⟨_, _, [0], ev_laws_toBoolS x hx, ⟨own_flat x rfl (by omega), by simp, by simp⟩, ⟨by simp only [Gud, List.length_singleton, objsBel, Bool.and_true]; exact bels_map _ _, by simp only [List.all_cons, List.all_nil, Bool.and_true, AObj.nl, PV.nls_iff]; intro p hp; obtain ⟨y, _, rfl⟩ := List.mem_map.1 hp; simp [PV.nl, PV.nls]⟩, by simp [PV.bel]⟩

def tl_laws_markBoolS : AC := (.ghost (.kill [0, 5]) (.seq (.post (.reg [⟨(some 20), .op (.mv (.tmp 1)), none⟩,
    ⟨(some 4), .op (.mv (.tmp 20)), none⟩]) (.kill [1, 20]))
  .ret))
theorem markC_BoolS : MarkC (α := List Bool) fns i_laws_markBoolS (fun xs : List Bool => 1 * xs.length) (mkF 1 (fun k => decide (k.tmod 3 = 0))) :=
  markC_flat 1 (fun k => decide (k.tmod 3 = 0)) (fun n0 id ver n i k σ => rE fns fa_laws_markBoolS n0 [.code lo_laws_markBoolS_0, .inBlock 0, .code tl_laws_markBoolS] [(5, i64 (i : Nat)), (1, i64 k), (0, .own id ver 0 n)] σ)
    (fun id ver n k σ r h => by
      refine go_laws_markBoolS (by simp) ?_
      simp [tl_laws_markBoolS] at h
      simp [ac_laws_markBoolS, h])
    (fun n0 id ver n i k σ xs h hlt h2 hn hb hk hk2 => by
      have hw := wrap_i64 (n := i + 1) (by omega)
      have w1 := wrap_i64 (n := k + 1) (by omega)
      subst hn
      simp at h2
      have hset : ∀ r, (σ.set id r)[id]? = some r := fun r => List.getElem?_set_self hlt
      rw [l_laws_markBoolS_0]
      simp [lb_laws_markBoolS_0, h, hset, h2, hw, w1, setCells, List.map_set])
    (fun id ver n k σ hg => by
      unfold Gud at hg
      rw [l_laws_markBoolS_0]
      simp [lb_laws_markBoolS_0, tl_laws_markBoolS, hg])
    (fun k σ hg => by
      unfold Gud at hg
      refine go_laws_markBoolS (by simp) ?_
      simp [ac_laws_markBoolS, l_laws_markBoolS_0, lb_laws_markBoolS_0, hg])

def tl_laws_heldBoolS : AC := (.ghost (.kill [0, 5]) (.seq (.post (.reg [⟨(some 22), .op (.mv (.tmp 1)), none⟩,
    ⟨(some 4), .op (.mv (.tmp 22)), none⟩]) (.kill [1, 22]))
  .ret))
theorem heldC_BoolS : HeldC (α := List Bool) fns i_laws_heldBoolS (fun xs : List Bool => 1 * xs.length) (mkF 1 (fun k => decide (k.tmod 3 = 0))) :=
  heldC_flat 1 (fun k => decide (k.tmod 3 = 0)) (fun ys i k => rE fns fa_laws_heldBoolS 0 [.code lo_laws_heldBoolS_0, .inBlock 0, .code tl_laws_heldBoolS] [(5, i64 (i : Nat)), (1, i64 k), (0, lst 1 ys)] [])
    (fun ys k r h => by
      refine go_laws_heldBoolS (by simp) ?_
      simp [tl_laws_heldBoolS] at h
      simp [ac_laws_heldBoolS, h])
    (fun ys i k h hk hk2 hl hy => by
      have hw := wrap_i64 (n := i + 1) (by omega)
      have w1 := wrap_i64 (n := k + 1) (by omega)
      rw [l_laws_heldBoolS_0]
      simp [lb_laws_heldBoolS_0, h, hy, hw, w1])
    (fun ys k => by
      rw [l_laws_heldBoolS_0]
      simp [lb_laws_heldBoolS_0, tl_laws_heldBoolS])

instance : Own GPush := ⟨.any, 2, fun _ ids p x => ids = [] ∧ p = Enc.pv x, fun h _ => h, fun {σ ids p x} h d hd => by
  obtain ⟨d, rfl⟩ : ∃ e, d = e + 2 := ⟨d - 2, by omega⟩
  exact ⟨p, by rw [h.2]; exact PV.flat_dfr (Enc.flat x) σ d, by simp [h.2]⟩,
  fun {σ} τ {ids p x} h => ⟨by simp [h.1], by rw [h.2]; simp [PV.sh, PV.shs]⟩, fun h _ => by rw [h.2]; simp [PV.bel, PV.bels], fun h => by rw [h.2]; simp [PV.nl, PV.nls]⟩
theorem own_Push {σ : List AObj} {ids : List Nat} {p : PV} {x : GPush} : Own.own σ ids p x ↔ ids = [] ∧ p = x.v := Iff.rfl
instance : Flat GPush := ⟨fun {σ ids p x} => Iff.rfl⟩
theorem lo_laws_toPushS (ls : List GPush) (hl : Siz.size ls ≤ 1048576) (ks : List KI) : ∀ suf pre, ls = pre ++ suf →
    rE fns fa_laws_toPushS 0 (.code lo_laws_toPushS_0 :: .inBlock 0 :: ks) [(4, i64 pre.length), (3, .own 0 0 0 ls.length), (0, lst 2 ls)] [.row 2 (pre.map Enc.pv ++ List.replicate suf.length (.agg [.val (.int .i64 0), .val (.int .i64 0)])) 0] =
      rE fns fa_laws_toPushS 0 ks [(3, .own 0 0 0 ls.length)] [.row 2 (ls.map Enc.pv) 0] := by
  have hl1 := Siz.len_le ls
  intro suf
  induction suf with
  | nil =>
    intro pre h
    simp at h; subst h
    rw [l_laws_toPushS_0]
    simp [lb_laws_toPushS_0]
  | cons x suf ih =>
    intro pre h
    rw [l_laws_toPushS_0]
    have mm := mid h
    have m1 := mm.1
    have hw := wrap_i64 (n := pre.length + 1) (by omega)
    have hle : pre.length + (suf.length + 1) ≤ ls.length := by simp [h]
    have ce := ev_laws_toPush x (by have := Siz.mem_le (x := x) (xs := ls) (by simp [h]); omega)
    have ih := ih (pre ++ [x]) (by simp [h])
    simp at ih
    simp [lb_laws_toPushS_0, mm.1, mm.2.2, hw, ce, List.replicate_succ, hle, ih]
theorem ev_laws_toPushS (a : List GPush) (h : Siz.size a ≤ 1048576) : ev fns i_laws_toPushS [lst 2 a] [] = some (.own 0 0 0 a.length, [.row 2 (a.map Enc.pv) 0]) := by
  have hl := Siz.len_le a
  refine go_laws_toPushS (by simp) ?_
  have h1 : (a.length : Int) * 40 ≤ 281474976710656 ∧ (a.length : Int) * 32 ≤ 281474976710656 ∧ (a.length : Int) * 24 ≤ 281474976710656 ∧ (a.length : Int) * 16 ≤ 281474976710656 ∧ (a.length : Int) * 8 ≤ 281474976710656 ∧ (a.length : Int) ≤ 281474976710656 ∧ a.length ≤ 140737488355328 := by omega
  have lo := fun ks => lo_laws_toPushS a h ks a [] rfl
  simp at lo
  simp [ac_laws_toPushS, h1, lo]
theorem toC_PushS : ToC (α := List GPush) fns i_laws_toPushS Siz.size := by
  intro x hx
  have hl := Siz.len_le x
  exact ⟨_, _, [0], ev_laws_toPushS x hx, ⟨own_flat x rfl (by omega), by simp, by simp⟩, ⟨by simp only [Gud, List.length_singleton, objsBel, Bool.and_true]; exact bels_map _ _, by simp only [List.all_cons, List.all_nil, Bool.and_true, AObj.nl, PV.nls_iff]; intro p hp; obtain ⟨y, _, rfl⟩ := List.mem_map.1 hp; simp [PV.nl, PV.nls]⟩, by simp [PV.bel]⟩

def tl_laws_markPushS : AC := (.ghost (.kill [0, 5]) (.seq (.post (.reg [⟨(some 26), .op (.mv (.tmp 1)), none⟩,
    ⟨(some 4), .op (.mv (.tmp 26)), none⟩]) (.kill [1, 26]))
  .ret))
theorem markC_PushS : MarkC (α := List GPush) fns i_laws_markPushS (fun xs : List GPush => 2 * xs.length) (mkF 2 (fun k => (⟨k, k + 1⟩ : GPush))) :=
  markC_flat 2 (fun k => (⟨k, k + 1⟩ : GPush)) (fun n0 id ver n i k σ => rE fns fa_laws_markPushS n0 [.code lo_laws_markPushS_0, .inBlock 0, .code tl_laws_markPushS] [(5, i64 (i : Nat)), (1, i64 k), (0, .own id ver 0 n)] σ)
    (fun id ver n k σ r h => by
      refine go_laws_markPushS (by simp) ?_
      simp [tl_laws_markPushS] at h
      simp [ac_laws_markPushS, h])
    (fun n0 id ver n i k σ xs h hlt h2 hn hb hk hk2 => by
      have hw := wrap_i64 (n := i + 1) (by omega)
      have w1 := wrap_i64 (n := k + 1) (by omega)
      have w2 := wrap_i64 (n := k + 2) (by omega)
      have v1 := wrap_i64 (n := k + 1 + 1) (by omega)
      have u1 : k + 1 + 1 = k + 2 := by omega
      subst hn
      simp at h2
      have hset : ∀ r, (σ.set id r)[id]? = some r := fun r => List.getElem?_set_self hlt
      rw [l_laws_markPushS_0]
      simp [lb_laws_markPushS_0, h, hset, h2, hw, w1, w2, v1, u1, setCells, List.map_set])
    (fun id ver n k σ hg => by
      unfold Gud at hg
      rw [l_laws_markPushS_0]
      simp [lb_laws_markPushS_0, tl_laws_markPushS, hg])
    (fun k σ hg => by
      unfold Gud at hg
      refine go_laws_markPushS (by simp) ?_
      simp [ac_laws_markPushS, l_laws_markPushS_0, lb_laws_markPushS_0, hg])

def tl_laws_heldPushS : AC := (.ghost (.kill [0, 5]) (.seq (.post (.reg [⟨(some 30), .op (.mv (.tmp 1)), none⟩,
    ⟨(some 4), .op (.mv (.tmp 30)), none⟩]) (.kill [1, 30]))
  .ret))
theorem heldC_PushS : HeldC (α := List GPush) fns i_laws_heldPushS (fun xs : List GPush => 2 * xs.length) (mkF 2 (fun k => (⟨k, k + 1⟩ : GPush))) :=
  heldC_flat 2 (fun k => (⟨k, k + 1⟩ : GPush)) (fun ys i k => rE fns fa_laws_heldPushS 0 [.code lo_laws_heldPushS_0, .inBlock 0, .code tl_laws_heldPushS] [(5, i64 (i : Nat)), (1, i64 k), (0, lst 2 ys)] [])
    (fun ys k r h => by
      refine go_laws_heldPushS (by simp) ?_
      simp [tl_laws_heldPushS] at h
      simp [ac_laws_heldPushS, h])
    (fun ys i k h hk hk2 hl hy => by
      have hw := wrap_i64 (n := i + 1) (by omega)
      have w1 := wrap_i64 (n := k + 1) (by omega)
      have w2 := wrap_i64 (n := k + 2) (by omega)
      have v1 := wrap_i64 (n := k + 1 + 1) (by omega)
      have u1 : k + 1 + 1 = k + 2 := by omega
      rw [l_laws_heldPushS_0]
      simp [lb_laws_heldPushS_0, h, hy, hw, w1, w2, v1, u1])
    (fun ys k => by
      rw [l_laws_heldPushS_0]
      simp [lb_laws_heldPushS_0, tl_laws_heldPushS])

def tl_laws_toPushSS : AC := (.ghost (.kill [0, 4]) (.seq (.post (.reg [⟨(some 22), .op (.mv (.tmp 3)), none⟩,
    ⟨(some 2), .op (.mv (.tmp 22)), none⟩]) (.kill [3, 22]))
  .ret))
theorem toC_PushSS : ToC (α := List (List GPush)) fns i_laws_toPushSS Siz.size :=
  toC_list (z := .val (.slice none 0 0)) (fun n => by simp [PV.bel, PV.bels]) (by simp [PV.nl, PV.nls]) toC_PushS (fun x xs h hs => by have := Siz.mem_le h; omega) Siz.len_le
    (fun xs i σ => rE fns fa_laws_toPushSS 0 [.code lo_laws_toPushSS_0, .inBlock 0, .code tl_laws_toPushSS] [(4, i64 i), (3, .own 0 0 0 xs.length), (0, lst 1 xs)] σ)
    (fun xs r hx h => by
      have hl := Siz.len_le xs
      refine go_laws_toPushSS (by simp) ?_
      have h1 : (xs.length : Int) * 40 ≤ 281474976710656 ∧ (xs.length : Int) * 32 ≤ 281474976710656 ∧ (xs.length : Int) * 72 ≤ 281474976710656 ∧ (xs.length : Int) * 24 ≤ 281474976710656 ∧ (xs.length : Int) * 16 ≤ 281474976710656 ∧ (xs.length : Int) * 8 ≤ 281474976710656 ∧ (xs.length : Int) ≤ 281474976710656 ∧ xs.length ≤ 140737488355328 := by omega
      simp [tl_laws_toPushSS] at h
      simp [ac_laws_toPushSS, h1, h])
    (fun xs i σ es q τ h hx h2 hl he hev hq1 hq2 hq3 => by
      have hll := Siz.len_le xs
      have hw := wrap_i64 (n := i + 1) (by omega)
      obtain ⟨ee, he1, he2⟩ := he
      subst he2
      have hqc := PV.sh_cells σ.length q
      rw [hq3] at hqc
      simp at hqc
      have hqo : (q.sh σ.length).okc = true := PV.okc_sh hq2 hq3
      cases σ with
      | nil => simp at h2
      | cons r0_ σt =>
      simp at h2
      subst h2
      simp at hev hqo hqc
      have hi' : i < es.length := by omega
      have he2 : es[i] = .val (.slice none 0 0) := by rw [List.getElem?_eq_getElem hi'] at he1; exact Option.some.inj he1
      rw [l_laws_toPushSS_0]
      simp [lb_laws_toPushSS_0, h, hl, hw, hev, he2, hqc, hqo, setCells])
    (fun xs σ es hx h2 hl hg => by
      cases σ with
      | nil => simp at h2
      | cons r0_ σt =>
      simp at h2
      subst h2
      unfold Gud at hg
      simp at hg
      rw [l_laws_toPushSS_0]
      simp [lb_laws_toPushSS_0, tl_laws_toPushSS, hg])
    (fun σ ids p x h hb => ⟨(own_one h).1, (own_one h).2.1, (own_one h).2.2.1⟩)

def tl_laws_markPushSS : AC := (.ghost (.kill [0, 5]) (.seq (.post (.reg [⟨(some 18), .op (.mv (.tmp 1)), none⟩,
    ⟨(some 4), .op (.mv (.tmp 18)), none⟩]) (.kill [1, 18]))
  .ret))
theorem markC_PushSS : MarkC (α := List (List GPush)) fns i_laws_markPushSS (sumW (fun xs : List GPush => 2 * xs.length)) (mkL (fun xs : List GPush => 2 * xs.length) (mkF 2 (fun k => (⟨k, k + 1⟩ : GPush)))) :=
  markC_list markC_PushS (fun n0 id ver n i k σ => rE fns fa_laws_markPushSS n0 [.code lo_laws_markPushSS_0, .inBlock 0, .code tl_laws_markPushSS] [(5, i64 (i : Nat)), (1, i64 k), (0, .own id ver 0 n)] σ)
    (fun id ver n k σ r h => by
      refine go_laws_markPushSS (by simp) ?_
      simp [tl_laws_markPushSS] at h
      simp [ac_laws_markPushSS, h])
    (fun n0 id ver n i k k' σ σ' es p h2 hl hn hi hp ho hc hev => by
      have hw := wrap_i64 (n := i + 1) (by omega)
      have hi' : i < es.length := by omega
      have hp' : es[i] = p := by rw [List.getElem?_eq_getElem hi'] at hp; exact Option.some.inj hp
      simp at h2 hev hc
      rw [l_laws_markPushSS_0]
      simp [lb_laws_markPushSS_0, hi, hl, h2, hw, hp', hc, hev])
    (fun id ver n k σ hg => by
      unfold Gud at hg
      rw [l_laws_markPushSS_0]
      simp [lb_laws_markPushSS_0, tl_laws_markPushSS, hg])
    (fun k σ hg => by
      unfold Gud at hg
      refine go_laws_markPushSS (by simp) ?_
      simp [ac_laws_markPushSS, l_laws_markPushSS_0, lb_laws_markPushSS_0, hg])
    (fun σ ids p x h => ⟨(own_one h).2.1, (own_one h).2.2.1⟩)

def tl_laws_heldPushSS : AC := (.ghost (.kill [0, 5]) (.seq (.post (.reg [⟨(some 20), .op (.mv (.tmp 1)), none⟩,
    ⟨(some 4), .op (.mv (.tmp 20)), none⟩]) (.kill [1, 20]))
  .ret))
theorem heldC_PushSS : HeldC (α := List (List GPush)) fns i_laws_heldPushSS (sumW (fun xs : List GPush => 2 * xs.length)) (mkL (fun xs : List GPush => 2 * xs.length) (mkF 2 (fun k => (⟨k, k + 1⟩ : GPush)))) :=
  heldC_list heldC_PushS (fun ys i k => rE fns fa_laws_heldPushSS 0 [.code lo_laws_heldPushSS_0, .inBlock 0, .code tl_laws_heldPushSS] [(5, i64 (i : Nat)), (1, i64 k), (0, lst 1 ys)] [])
    (fun ys k r h => by
      refine go_laws_heldPushSS (by simp) ?_
      simp [tl_laws_heldPushSS] at h
      simp [ac_laws_heldPushSS, h])
    (fun ys i k k' h hk hl hev => by
      have hw := wrap_i64 (n := i + 1) (by omega)
      simp at hev
      rw [l_laws_heldPushSS_0]
      simp [lb_laws_heldPushSS_0, h, hw, hev, show ¬ (k' < 0) by omega])
    (fun ys k => by
      rw [l_laws_heldPushSS_0]
      simp [lb_laws_heldPushSS_0, tl_laws_heldPushSS])

theorem lo_laws_toInt64S (ls : List Int) (hl : Siz.size ls ≤ 1048576) (ks : List KI) : ∀ suf pre, ls = pre ++ suf →
    rE fns fa_laws_toInt64S 0 (.code lo_laws_toInt64S_0 :: .inBlock 0 :: ks) [(4, i64 pre.length), (3, .own 0 0 0 ls.length), (0, lst 1 ls)] [.row 1 (pre.map Enc.pv ++ List.replicate suf.length (.val (.int .i64 0))) 0] =
      rE fns fa_laws_toInt64S 0 ks [(3, .own 0 0 0 ls.length)] [.row 1 (ls.map Enc.pv) 0] := by
  have hl1 := Siz.len_le ls
  intro suf
  induction suf with
  | nil =>
    intro pre h
    simp at h; subst h
    rw [l_laws_toInt64S_0]
    simp [lb_laws_toInt64S_0]
  | cons x suf ih =>
    intro pre h
    rw [l_laws_toInt64S_0]
    have mm := mid h
    have m1 := mm.1
    have hw := wrap_i64 (n := pre.length + 1) (by omega)
    have hle : pre.length + (suf.length + 1) ≤ ls.length := by simp [h]
    have ih := ih (pre ++ [x]) (by simp [h])
    simp at ih
    simp [lb_laws_toInt64S_0, mm.1, mm.2.2, hw, List.replicate_succ, hle, ih]
theorem ev_laws_toInt64S (a : List Int) (h : Siz.size a ≤ 1048576) : ev fns i_laws_toInt64S [lst 1 a] [] = some (.own 0 0 0 a.length, [.row 1 (a.map Enc.pv) 0]) := by
  have hl := Siz.len_le a
  refine go_laws_toInt64S (by simp) ?_
  have h1 : (a.length : Int) * 40 ≤ 281474976710656 ∧ (a.length : Int) * 32 ≤ 281474976710656 ∧ (a.length : Int) * 24 ≤ 281474976710656 ∧ (a.length : Int) * 16 ≤ 281474976710656 ∧ (a.length : Int) * 8 ≤ 281474976710656 ∧ (a.length : Int) ≤ 281474976710656 ∧ a.length ≤ 140737488355328 := by omega
  have lo := fun ks => lo_laws_toInt64S a h ks a [] rfl
  simp at lo
  simp [ac_laws_toInt64S, h1, lo]
theorem toC_Int64S : ToC (α := List Int) fns i_laws_toInt64S Siz.size := by
  intro x hx
  have hl := Siz.len_le x
  exact ⟨_, _, [0], ev_laws_toInt64S x hx, ⟨own_flat x rfl (by omega), by simp, by simp⟩, ⟨by simp only [Gud, List.length_singleton, objsBel, Bool.and_true]; exact bels_map _ _, by simp only [List.all_cons, List.all_nil, Bool.and_true, AObj.nl, PV.nls_iff]; intro p hp; obtain ⟨y, _, rfl⟩ := List.mem_map.1 hp; simp [PV.nl, PV.nls]⟩, by simp [PV.bel]⟩

def tl_laws_markInt64S : AC := (.ghost (.kill [0, 5]) (.seq (.post (.reg [⟨(some 18), .op (.mv (.tmp 1)), none⟩,
    ⟨(some 4), .op (.mv (.tmp 18)), none⟩]) (.kill [1, 18]))
  .ret))
theorem markC_Int64S : MarkC (α := List Int) fns i_laws_markInt64S (fun xs : List Int => 1 * xs.length) (mkF 1 (fun k => k)) :=
  markC_flat 1 (fun k => k) (fun n0 id ver n i k σ => rE fns fa_laws_markInt64S n0 [.code lo_laws_markInt64S_0, .inBlock 0, .code tl_laws_markInt64S] [(5, i64 (i : Nat)), (1, i64 k), (0, .own id ver 0 n)] σ)
    (fun id ver n k σ r h => by
      refine go_laws_markInt64S (by simp) ?_
      simp [tl_laws_markInt64S] at h
      simp [ac_laws_markInt64S, h])
    (fun n0 id ver n i k σ xs h hlt h2 hn hb hk hk2 => by
      have hw := wrap_i64 (n := i + 1) (by omega)
      have w1 := wrap_i64 (n := k + 1) (by omega)
      subst hn
      simp at h2
      have hset : ∀ r, (σ.set id r)[id]? = some r := fun r => List.getElem?_set_self hlt
      rw [l_laws_markInt64S_0]
      simp [lb_laws_markInt64S_0, h, hset, h2, hw, w1, setCells, List.map_set])
    (fun id ver n k σ hg => by
      unfold Gud at hg
      rw [l_laws_markInt64S_0]
      simp [lb_laws_markInt64S_0, tl_laws_markInt64S, hg])
    (fun k σ hg => by
      unfold Gud at hg
      refine go_laws_markInt64S (by simp) ?_
      simp [ac_laws_markInt64S, l_laws_markInt64S_0, lb_laws_markInt64S_0, hg])

def tl_laws_heldInt64S : AC := (.ghost (.kill [0, 5]) (.seq (.post (.reg [⟨(some 20), .op (.mv (.tmp 1)), none⟩,
    ⟨(some 4), .op (.mv (.tmp 20)), none⟩]) (.kill [1, 20]))
  .ret))
theorem heldC_Int64S : HeldC (α := List Int) fns i_laws_heldInt64S (fun xs : List Int => 1 * xs.length) (mkF 1 (fun k => k)) :=
  heldC_flat 1 (fun k => k) (fun ys i k => rE fns fa_laws_heldInt64S 0 [.code lo_laws_heldInt64S_0, .inBlock 0, .code tl_laws_heldInt64S] [(5, i64 (i : Nat)), (1, i64 k), (0, lst 1 ys)] [])
    (fun ys k r h => by
      refine go_laws_heldInt64S (by simp) ?_
      simp [tl_laws_heldInt64S] at h
      simp [ac_laws_heldInt64S, h])
    (fun ys i k h hk hk2 hl hy => by
      have hw := wrap_i64 (n := i + 1) (by omega)
      have w1 := wrap_i64 (n := k + 1) (by omega)
      rw [l_laws_heldInt64S_0]
      simp [lb_laws_heldInt64S_0, h, hy, hw, w1])
    (fun ys k => by
      rw [l_laws_heldInt64S_0]
      simp [lb_laws_heldInt64S_0, tl_laws_heldInt64S])

def tl_laws_toInt64SS : AC := (.ghost (.kill [0, 4]) (.seq (.post (.reg [⟨(some 22), .op (.mv (.tmp 3)), none⟩,
    ⟨(some 2), .op (.mv (.tmp 22)), none⟩]) (.kill [3, 22]))
  .ret))
theorem toC_Int64SS : ToC (α := List (List Int)) fns i_laws_toInt64SS Siz.size :=
  toC_list (z := .val (.slice none 0 0)) (fun n => by simp [PV.bel, PV.bels]) (by simp [PV.nl, PV.nls]) toC_Int64S (fun x xs h hs => by have := Siz.mem_le h; omega) Siz.len_le
    (fun xs i σ => rE fns fa_laws_toInt64SS 0 [.code lo_laws_toInt64SS_0, .inBlock 0, .code tl_laws_toInt64SS] [(4, i64 i), (3, .own 0 0 0 xs.length), (0, lst 1 xs)] σ)
    (fun xs r hx h => by
      have hl := Siz.len_le xs
      refine go_laws_toInt64SS (by simp) ?_
      have h1 : (xs.length : Int) * 40 ≤ 281474976710656 ∧ (xs.length : Int) * 32 ≤ 281474976710656 ∧ (xs.length : Int) * 72 ≤ 281474976710656 ∧ (xs.length : Int) * 24 ≤ 281474976710656 ∧ (xs.length : Int) * 16 ≤ 281474976710656 ∧ (xs.length : Int) * 8 ≤ 281474976710656 ∧ (xs.length : Int) ≤ 281474976710656 ∧ xs.length ≤ 140737488355328 := by omega
      simp [tl_laws_toInt64SS] at h
      simp [ac_laws_toInt64SS, h1, h])
    (fun xs i σ es q τ h hx h2 hl he hev hq1 hq2 hq3 => by
      have hll := Siz.len_le xs
      have hw := wrap_i64 (n := i + 1) (by omega)
      obtain ⟨ee, he1, he2⟩ := he
      subst he2
      have hqc := PV.sh_cells σ.length q
      rw [hq3] at hqc
      simp at hqc
      have hqo : (q.sh σ.length).okc = true := PV.okc_sh hq2 hq3
      cases σ with
      | nil => simp at h2
      | cons r0_ σt =>
      simp at h2
      subst h2
      simp at hev hqo hqc
      have hi' : i < es.length := by omega
      have he2 : es[i] = .val (.slice none 0 0) := by rw [List.getElem?_eq_getElem hi'] at he1; exact Option.some.inj he1
      rw [l_laws_toInt64SS_0]
      simp [lb_laws_toInt64SS_0, h, hl, hw, hev, he2, hqc, hqo, setCells])
    (fun xs σ es hx h2 hl hg => by
      cases σ with
      | nil => simp at h2
      | cons r0_ σt =>
      simp at h2
      subst h2
      unfold Gud at hg
      simp at hg
      rw [l_laws_toInt64SS_0]
      simp [lb_laws_toInt64SS_0, tl_laws_toInt64SS, hg])
    (fun σ ids p x h hb => ⟨(own_one h).1, (own_one h).2.1, (own_one h).2.2.1⟩)

def tl_laws_markInt64SS : AC := (.ghost (.kill [0, 5]) (.seq (.post (.reg [⟨(some 18), .op (.mv (.tmp 1)), none⟩,
    ⟨(some 4), .op (.mv (.tmp 18)), none⟩]) (.kill [1, 18]))
  .ret))
theorem markC_Int64SS : MarkC (α := List (List Int)) fns i_laws_markInt64SS (sumW (fun xs : List Int => 1 * xs.length)) (mkL (fun xs : List Int => 1 * xs.length) (mkF 1 (fun k => k))) :=
  markC_list markC_Int64S (fun n0 id ver n i k σ => rE fns fa_laws_markInt64SS n0 [.code lo_laws_markInt64SS_0, .inBlock 0, .code tl_laws_markInt64SS] [(5, i64 (i : Nat)), (1, i64 k), (0, .own id ver 0 n)] σ)
    (fun id ver n k σ r h => by
      refine go_laws_markInt64SS (by simp) ?_
      simp [tl_laws_markInt64SS] at h
      simp [ac_laws_markInt64SS, h])
    (fun n0 id ver n i k k' σ σ' es p h2 hl hn hi hp ho hc hev => by
      have hw := wrap_i64 (n := i + 1) (by omega)
      have hi' : i < es.length := by omega
      have hp' : es[i] = p := by rw [List.getElem?_eq_getElem hi'] at hp; exact Option.some.inj hp
      simp at h2 hev hc
      rw [l_laws_markInt64SS_0]
      simp [lb_laws_markInt64SS_0, hi, hl, h2, hw, hp', hc, hev])
    (fun id ver n k σ hg => by
      unfold Gud at hg
      rw [l_laws_markInt64SS_0]
      simp [lb_laws_markInt64SS_0, tl_laws_markInt64SS, hg])
    (fun k σ hg => by
      unfold Gud at hg
      refine go_laws_markInt64SS (by simp) ?_
      simp [ac_laws_markInt64SS, l_laws_markInt64SS_0, lb_laws_markInt64SS_0, hg])
    (fun σ ids p x h => ⟨(own_one h).2.1, (own_one h).2.2.1⟩)

def tl_laws_heldInt64SS : AC := (.ghost (.kill [0, 5]) (.seq (.post (.reg [⟨(some 20), .op (.mv (.tmp 1)), none⟩,
    ⟨(some 4), .op (.mv (.tmp 20)), none⟩]) (.kill [1, 20]))
  .ret))
theorem heldC_Int64SS : HeldC (α := List (List Int)) fns i_laws_heldInt64SS (sumW (fun xs : List Int => 1 * xs.length)) (mkL (fun xs : List Int => 1 * xs.length) (mkF 1 (fun k => k))) :=
  heldC_list heldC_Int64S (fun ys i k => rE fns fa_laws_heldInt64SS 0 [.code lo_laws_heldInt64SS_0, .inBlock 0, .code tl_laws_heldInt64SS] [(5, i64 (i : Nat)), (1, i64 k), (0, lst 1 ys)] [])
    (fun ys k r h => by
      refine go_laws_heldInt64SS (by simp) ?_
      simp [tl_laws_heldInt64SS] at h
      simp [ac_laws_heldInt64SS, h])
    (fun ys i k k' h hk hl hev => by
      have hw := wrap_i64 (n := i + 1) (by omega)
      simp at hev
      rw [l_laws_heldInt64SS_0]
      simp [lb_laws_heldInt64SS_0, h, hw, hev, show ¬ (k' < 0) by omega])
    (fun ys k => by
      rw [l_laws_heldInt64SS_0]
      simp [lb_laws_heldInt64SS_0, tl_laws_heldInt64SS])

def tl_laws_toInt64SSS : AC := (.ghost (.kill [0, 4]) (.seq (.post (.reg [⟨(some 22), .op (.mv (.tmp 3)), none⟩,
    ⟨(some 2), .op (.mv (.tmp 22)), none⟩]) (.kill [3, 22]))
  .ret))
theorem toC_Int64SSS : ToC (α := List (List (List Int))) fns i_laws_toInt64SSS Siz.size :=
  toC_list (z := .val (.slice none 0 0)) (fun n => by simp [PV.bel, PV.bels]) (by simp [PV.nl, PV.nls]) toC_Int64SS (fun x xs h hs => by have := Siz.mem_le h; omega) Siz.len_le
    (fun xs i σ => rE fns fa_laws_toInt64SSS 0 [.code lo_laws_toInt64SSS_0, .inBlock 0, .code tl_laws_toInt64SSS] [(4, i64 i), (3, .own 0 0 0 xs.length), (0, lst 1 xs)] σ)
    (fun xs r hx h => by
      have hl := Siz.len_le xs
      refine go_laws_toInt64SSS (by simp) ?_
      have h1 : (xs.length : Int) * 40 ≤ 281474976710656 ∧ (xs.length : Int) * 32 ≤ 281474976710656 ∧ (xs.length : Int) * 72 ≤ 281474976710656 ∧ (xs.length : Int) * 24 ≤ 281474976710656 ∧ (xs.length : Int) * 16 ≤ 281474976710656 ∧ (xs.length : Int) * 8 ≤ 281474976710656 ∧ (xs.length : Int) ≤ 281474976710656 ∧ xs.length ≤ 140737488355328 := by omega
      simp [tl_laws_toInt64SSS] at h
      simp [ac_laws_toInt64SSS, h1, h])
    (fun xs i σ es q τ h hx h2 hl he hev hq1 hq2 hq3 => by
      have hll := Siz.len_le xs
      have hw := wrap_i64 (n := i + 1) (by omega)
      obtain ⟨ee, he1, he2⟩ := he
      subst he2
      have hqc := PV.sh_cells σ.length q
      rw [hq3] at hqc
      simp at hqc
      have hqo : (q.sh σ.length).okc = true := PV.okc_sh hq2 hq3
      cases σ with
      | nil => simp at h2
      | cons r0_ σt =>
      simp at h2
      subst h2
      simp at hev hqo hqc
      have hi' : i < es.length := by omega
      have he2 : es[i] = .val (.slice none 0 0) := by rw [List.getElem?_eq_getElem hi'] at he1; exact Option.some.inj he1
      rw [l_laws_toInt64SSS_0]
      simp [lb_laws_toInt64SSS_0, h, hl, hw, hev, he2, hqc, hqo, setCells])
    (fun xs σ es hx h2 hl hg => by
      cases σ with
      | nil => simp at h2
      | cons r0_ σt =>
      simp at h2
      subst h2
      unfold Gud at hg
      simp at hg
      rw [l_laws_toInt64SSS_0]
      simp [lb_laws_toInt64SSS_0, tl_laws_toInt64SSS, hg])
    (fun σ ids p x h hb => ⟨(own_one h).1, (own_one h).2.1, (own_one h).2.2.1⟩)

def tl_laws_markInt64SSS : AC := (.ghost (.kill [0, 5]) (.seq (.post (.reg [⟨(some 18), .op (.mv (.tmp 1)), none⟩,
    ⟨(some 4), .op (.mv (.tmp 18)), none⟩]) (.kill [1, 18]))
  .ret))
theorem markC_Int64SSS : MarkC (α := List (List (List Int))) fns i_laws_markInt64SSS (sumW (sumW (fun xs : List Int => 1 * xs.length))) (mkL (sumW (fun xs : List Int => 1 * xs.length)) (mkL (fun xs : List Int => 1 * xs.length) (mkF 1 (fun k => k)))) :=
  markC_list markC_Int64SS (fun n0 id ver n i k σ => rE fns fa_laws_markInt64SSS n0 [.code lo_laws_markInt64SSS_0, .inBlock 0, .code tl_laws_markInt64SSS] [(5, i64 (i : Nat)), (1, i64 k), (0, .own id ver 0 n)] σ)
    (fun id ver n k σ r h => by
      refine go_laws_markInt64SSS (by simp) ?_
      simp [tl_laws_markInt64SSS] at h
      simp [ac_laws_markInt64SSS, h])
    (fun n0 id ver n i k k' σ σ' es p h2 hl hn hi hp ho hc hev => by
      have hw := wrap_i64 (n := i + 1) (by omega)
      have hi' : i < es.length := by omega
      have hp' : es[i] = p := by rw [List.getElem?_eq_getElem hi'] at hp; exact Option.some.inj hp
      simp at h2 hev hc
      rw [l_laws_markInt64SSS_0]
      simp [lb_laws_markInt64SSS_0, hi, hl, h2, hw, hp', hc, hev])
    (fun id ver n k σ hg => by
      unfold Gud at hg
      rw [l_laws_markInt64SSS_0]
      simp [lb_laws_markInt64SSS_0, tl_laws_markInt64SSS, hg])
    (fun k σ hg => by
      unfold Gud at hg
      refine go_laws_markInt64SSS (by simp) ?_
      simp [ac_laws_markInt64SSS, l_laws_markInt64SSS_0, lb_laws_markInt64SSS_0, hg])
    (fun σ ids p x h => ⟨(own_one h).2.1, (own_one h).2.2.1⟩)

def tl_laws_heldInt64SSS : AC := (.ghost (.kill [0, 5]) (.seq (.post (.reg [⟨(some 20), .op (.mv (.tmp 1)), none⟩,
    ⟨(some 4), .op (.mv (.tmp 20)), none⟩]) (.kill [1, 20]))
  .ret))
theorem heldC_Int64SSS : HeldC (α := List (List (List Int))) fns i_laws_heldInt64SSS (sumW (sumW (fun xs : List Int => 1 * xs.length))) (mkL (sumW (fun xs : List Int => 1 * xs.length)) (mkL (fun xs : List Int => 1 * xs.length) (mkF 1 (fun k => k)))) :=
  heldC_list heldC_Int64SS (fun ys i k => rE fns fa_laws_heldInt64SSS 0 [.code lo_laws_heldInt64SSS_0, .inBlock 0, .code tl_laws_heldInt64SSS] [(5, i64 (i : Nat)), (1, i64 k), (0, lst 1 ys)] [])
    (fun ys k r h => by
      refine go_laws_heldInt64SSS (by simp) ?_
      simp [tl_laws_heldInt64SSS] at h
      simp [ac_laws_heldInt64SSS, h])
    (fun ys i k k' h hk hl hev => by
      have hw := wrap_i64 (n := i + 1) (by omega)
      simp at hev
      rw [l_laws_heldInt64SSS_0]
      simp [lb_laws_heldInt64SSS_0, h, hw, hev, show ¬ (k' < 0) by omega])
    (fun ys k => by
      rw [l_laws_heldInt64SSS_0]
      simp [lb_laws_heldInt64SSS_0, tl_laws_heldInt64SSS])

def ownChecker (σ : List AObj) (ids : List Nat) (p : PV) (x : GChecker) : Prop := ∃ i0 p0 i1 p1 i2 p2 i3 p3 i4 p4 i5 p5, ids = i0 ++ i1 ++ i2 ++ i3 ++ i4 ++ i5 ∧ p = .agg [p0, p1, p2, p3, p4, p5] ∧ Own.own σ i0 p0 x.stack ∧ Own.own σ i1 p1 x.start ∧ Own.own σ i2 p2 x.accept ∧ Own.own σ i3 p3 x.call ∧ Own.own σ i4 p4 x.ret ∧ Own.own σ i5 p5 x.inner
instance : Own GChecker := ⟨.agg [Own.sh (Int), Own.sh (Int), Own.sh (List Bool), Own.sh (List (List GPush)), Own.sh (List (List (List Int))), Own.sh (List (List Int))], max (Own.dep (Int)) (max (Own.dep (Int)) (max (Own.dep (List Bool)) (max (Own.dep (List (List GPush))) (max (Own.dep (List (List (List Int)))) (Own.dep (List (List Int))))))) + 1, ownChecker,
  fun {σ σ' ids p x} h k => by
    obtain ⟨i0, p0, i1, p1, i2, p2, i3, p3, i4, p4, i5, p5, rfl, rfl, h0, h1, h2, h3, h4, h5⟩ := h
    exact ⟨i0, p0, i1, p1, i2, p2, i3, p3, i4, p4, i5, p5, rfl, rfl, Own.frame h0 fun i hi => k i (by simp [hi]), Own.frame h1 fun i hi => k i (by simp [hi]), Own.frame h2 fun i hi => k i (by simp [hi]), Own.frame h3 fun i hi => k i (by simp [hi]), Own.frame h4 fun i hi => k i (by simp [hi]), Own.frame h5 fun i hi => k i (by simp [hi])⟩,
  fun {σ ids p x} h d hd => by
    obtain ⟨d, rfl⟩ : ∃ e, d = e + 1 := ⟨d - 1, by omega⟩
    obtain ⟨i0, p0, i1, p1, i2, p2, i3, p3, i4, p4, i5, p5, rfl, rfl, h0, h1, h2, h3, h4, h5⟩ := h
    obtain ⟨q0, e0, f0⟩ := Own.read h0 d (by omega)
    obtain ⟨q1, e1, f1⟩ := Own.read h1 d (by omega)
    obtain ⟨q2, e2, f2⟩ := Own.read h2 d (by omega)
    obtain ⟨q3, e3, f3⟩ := Own.read h3 d (by omega)
    obtain ⟨q4, e4, f4⟩ := Own.read h4 d (by omega)
    obtain ⟨q5, e5, f5⟩ := Own.read h5 d (by omega)
    refine ⟨.agg [q0, q1, q2, q3, q4, q5], by simp [dfr, mapO, e0, e1, e2, e3, e4, e5], ?_⟩
    simp only [PV.ty_agg, PV.tys, f0, f1, f2, f3, f4, f5]; rfl,
  fun {σ} τ {ids p x} h => by
    obtain ⟨i0, p0, i1, p1, i2, p2, i3, p3, i4, p4, i5, p5, rfl, rfl, h0, h1, h2, h3, h4, h5⟩ := h
    exact ⟨i0.map (· + τ.length), p0.sh τ.length, i1.map (· + τ.length), p1.sh τ.length, i2.map (· + τ.length), p2.sh τ.length, i3.map (· + τ.length), p3.sh τ.length, i4.map (· + τ.length), p4.sh τ.length, i5.map (· + τ.length), p5.sh τ.length, by simp, by simp [PV.sh, PV.shs], Own.shift τ h0, Own.shift τ h1, Own.shift τ h2, Own.shift τ h3, Own.shift τ h4, Own.shift τ h5⟩,
  fun {σ n ids p x} h k => by
    obtain ⟨i0, p0, i1, p1, i2, p2, i3, p3, i4, p4, i5, p5, rfl, rfl, h0, h1, h2, h3, h4, h5⟩ := h
    simp only [PV.bel, PV.bels, Own.bel h0 fun i hi => k i (by simp [hi]), Own.bel h1 fun i hi => k i (by simp [hi]), Own.bel h2 fun i hi => k i (by simp [hi]), Own.bel h3 fun i hi => k i (by simp [hi]), Own.bel h4 fun i hi => k i (by simp [hi]), Own.bel h5 fun i hi => k i (by simp [hi]), Bool.and_self],
  fun {σ ids p x} h => by
    obtain ⟨i0, p0, i1, p1, i2, p2, i3, p3, i4, p4, i5, p5, rfl, rfl, h0, h1, h2, h3, h4, h5⟩ := h
    simp only [PV.nl, PV.nls, Own.nl h0, Own.nl h1, Own.nl h2, Own.nl h3, Own.nl h4, Own.nl h5, Bool.and_self]⟩

theorem own_Checker {σ : List AObj} {ids : List Nat} {p : PV} {x : GChecker} : Own.own σ ids p x ↔ ownChecker σ ids p x := Iff.rfl
theorem toC_Checker : ToC (α := GChecker) fns i_laws_toChecker Siz.size := by
  intro x hx
  rw [size_Checker] at hx
  obtain ⟨q2, σ2, d2, c2, o2, lo2, ⟨m2, x2⟩, z2, nl2, g2, n2⟩ := ToC.call toC_BoolS x.accept (by omega) [] (by simp [objsBel]) (by simp)
  obtain ⟨q3, σ3, d3, c3, o3, lo3, ⟨m3, x3⟩, z3, nl3, g3, n3⟩ := ToC.call toC_PushSS x.call (by omega) σ2 g2 n2
  obtain ⟨q4, σ4, d4, c4, o4, lo4, ⟨m4, x4⟩, z4, nl4, g4, n4⟩ := ToC.call toC_Int64SSS x.ret (by omega) σ3 g3 n3
  obtain ⟨q5, σ5, d5, c5, o5, lo5, ⟨m5, x5⟩, z5, nl5, g5, n5⟩ := ToC.call toC_Int64SS x.inner (by omega) σ4 g4 n4
  have w2 : ∀ r0 r1, OwnIn (r0 :: r1 :: σ5) d2 q2 x.accept := fun r0 r1 => by
    have h := (o2 r0 r1).grow (m3 ++ m4 ++ m5)
    have e : r0 :: r1 :: σ5 = (r0 :: r1 :: σ2) ++ (m3 ++ m4 ++ m5) := by rw [x5, x4, x3]; simp
    rw [e]; exact h
  have y2 : PV.bel (σ5.length + 1 + 1) q2 = true := by have := (w2 (.row 0 [] 0) (.row 0 [] 0)).bel; simpa using this
  have ln2 : σ2.length ≤ σ5.length := by rw [x5, x4, x3]; simp; try omega
  have w3 : ∀ r0 r1, OwnIn (r0 :: r1 :: σ5) d3 q3 x.call := fun r0 r1 => by
    have h := (o3 r0 r1).grow (m4 ++ m5)
    have e : r0 :: r1 :: σ5 = (r0 :: r1 :: σ3) ++ (m4 ++ m5) := by rw [x5, x4]; simp
    rw [e]; exact h
  have y3 : PV.bel (σ5.length + 1 + 1) q3 = true := by have := (w3 (.row 0 [] 0) (.row 0 [] 0)).bel; simpa using this
  have ln3 : σ3.length ≤ σ5.length := by rw [x5, x4]; simp; try omega
  have w4 : ∀ r0 r1, OwnIn (r0 :: r1 :: σ5) d4 q4 x.ret := fun r0 r1 => by
    have h := (o4 r0 r1).grow (m5)
    have e : r0 :: r1 :: σ5 = (r0 :: r1 :: σ4) ++ (m5) := by rw [x5]; simp
    rw [e]; exact h
  have y4 : PV.bel (σ5.length + 1 + 1) q4 = true := by have := (w4 (.row 0 [] 0) (.row 0 [] 0)).bel; simpa using this
  have ln4 : σ4.length ≤ σ5.length := by rw [x5]; simp; try omega
  have w5 : ∀ r0 r1, OwnIn (r0 :: r1 :: σ5) d5 q5 x.inner := fun r0 r1 => by
    exact o5 r0 r1
  have y5 : PV.bel (σ5.length + 1 + 1) q5 = true := by have := (w5 (.row 0 [] 0) (.row 0 [] 0)).bel; simpa using this
  have ln5 : σ5.length ≤ σ5.length := by exact Nat.le_refl _
  simp [-callN] at c2 c3 c4 c5
  have kc2 := (own_one (o2 (.row 0 [] 0) (.row 0 [] 0)).own).2.2.1
  have ko2 := (own_one (o2 (.row 0 [] 0) (.row 0 [] 0)).own).2.1
  have kn2 := (own_one (o2 (.row 0 [] 0) (.row 0 [] 0)).own).2.2.2
  have kc3 := (own_one (o3 (.row 0 [] 0) (.row 0 [] 0)).own).2.2.1
  have ko3 := (own_one (o3 (.row 0 [] 0) (.row 0 [] 0)).own).2.1
  have kn3 := (own_one (o3 (.row 0 [] 0) (.row 0 [] 0)).own).2.2.2
  have kc4 := (own_one (o4 (.row 0 [] 0) (.row 0 [] 0)).own).2.2.1
  have ko4 := (own_one (o4 (.row 0 [] 0) (.row 0 [] 0)).own).2.1
  have kn4 := (own_one (o4 (.row 0 [] 0) (.row 0 [] 0)).own).2.2.2
  have kc5 := (own_one (o5 (.row 0 [] 0) (.row 0 [] 0)).own).2.2.1
  have ko5 := (own_one (o5 (.row 0 [] 0) (.row 0 [] 0)).own).2.1
  have kn5 := (own_one (o5 (.row 0 [] 0) (.row 0 [] 0)).own).2.2.2
  simp at kc2 ko2 kn2 kc3 ko3 kn3 kc4 ko4 kn4 kc5 ko5 kn5
  refine ⟨.agg [Enc.pv x.stack, Enc.pv x.start, q2, q3, q4, q5], .row 6 [.agg [Enc.pv x.stack, Enc.pv x.start, q2, q3, q4, q5]] 0 :: .row 6 [.agg [Enc.pv x.stack, Enc.pv x.start, q2, q3, q4, q5]] 0 :: σ5, [] ++ [] ++ d2 ++ d3 ++ d4 ++ d5, ?_, ⟨⟨[], Enc.pv x.stack, [], Enc.pv x.start, d2, q2, d3, q3, d4, q4, d5, q5, rfl, rfl, ⟨rfl, rfl⟩, ⟨rfl, rfl⟩, (w2 _ _).own, (w3 _ _).own, (w4 _ _).own, (w5 _ _).own⟩, ?_, ?_⟩, ⟨?_, ?_⟩, ?_⟩
  · refine go_laws_toChecker (by simp) ?_
    simp [-callN, ac_laws_toChecker, c2, kc2, ko2, kn2, c3, kc3, ko3, kn3, c4, kc4, ko4, kn4, c5, kc5, ko5, kn5, setCells, z2, y2, z3, y3, z4, y4, z5, y5, g5]
  · have a2 := (w2 (.row 0 [] 0) (.row 0 [] 0)).nd
    have b2 := (o2 (.row 0 [] 0) (.row 0 [] 0)).lt
    simp only [List.length_cons] at b2
    have a3 := (w3 (.row 0 [] 0) (.row 0 [] 0)).nd
    have b3 := (o3 (.row 0 [] 0) (.row 0 [] 0)).lt
    simp only [List.length_cons] at b3
    have a4 := (w4 (.row 0 [] 0) (.row 0 [] 0)).nd
    have b4 := (o4 (.row 0 [] 0) (.row 0 [] 0)).lt
    simp only [List.length_cons] at b4
    have a5 := (w5 (.row 0 [] 0) (.row 0 [] 0)).nd
    have b5 := (o5 (.row 0 [] 0) (.row 0 [] 0)).lt
    simp only [List.length_cons] at b5
    have le3 : σ2.length ≤ σ3.length := by rw [x3]; simp
    have le4 : σ3.length ≤ σ4.length := by rw [x4]; simp
    have le5 : σ4.length ≤ σ5.length := by rw [x5]; simp
    simp only [List.nodup_append, List.mem_append, List.nil_append, List.append_nil]
    grind
  · intro j hj
    have a2 := (w2 (.row 0 [] 0) (.row 0 [] 0)).nd
    have b2 := (o2 (.row 0 [] 0) (.row 0 [] 0)).lt
    simp only [List.length_cons] at b2
    have a3 := (w3 (.row 0 [] 0) (.row 0 [] 0)).nd
    have b3 := (o3 (.row 0 [] 0) (.row 0 [] 0)).lt
    simp only [List.length_cons] at b3
    have a4 := (w4 (.row 0 [] 0) (.row 0 [] 0)).nd
    have b4 := (o4 (.row 0 [] 0) (.row 0 [] 0)).lt
    simp only [List.length_cons] at b4
    have a5 := (w5 (.row 0 [] 0) (.row 0 [] 0)).nd
    have b5 := (o5 (.row 0 [] 0) (.row 0 [] 0)).lt
    simp only [List.length_cons] at b5
    simp only [List.mem_append, List.nil_append, List.append_nil] at hj
    simp only [List.length_cons]
    grind
  · simp [Gud, objsBel, PV.bels, PV.bel, y2, y3, y4, y5, g5]
  · have h := List.all_eq_true.1 n5
    simp [AObj.nl, PV.nls, PV.nl, nl2, nl3, nl4, nl5]
    exact h
  · simp [PV.bel, PV.bels, z2, z3, z4, z5]

def wChecker (x : GChecker) : Nat := (fun xs : List Bool => 1 * xs.length) x.accept + (sumW (fun xs : List GPush => 2 * xs.length)) x.call + (sumW (sumW (fun xs : List Int => 1 * xs.length))) x.ret + (sumW (fun xs : List Int => 1 * xs.length)) x.inner
def mkChecker (x : GChecker) (k : Int) : GChecker := ⟨x.stack, x.start, (mkF 1 (fun k => decide (k.tmod 3 = 0))) x.accept (k), (mkL (fun xs : List GPush => 2 * xs.length) (mkF 2 (fun k => (⟨k, k + 1⟩ : GPush)))) x.call (k + ((fun xs : List Bool => 1 * xs.length) x.accept : Nat)), (mkL (sumW (fun xs : List Int => 1 * xs.length)) (mkL (fun xs : List Int => 1 * xs.length) (mkF 1 (fun k => k)))) x.ret (k + ((fun xs : List Bool => 1 * xs.length) x.accept : Nat) + ((sumW (fun xs : List GPush => 2 * xs.length)) x.call : Nat)), (mkL (fun xs : List Int => 1 * xs.length) (mkF 1 (fun k => k))) x.inner (k + ((fun xs : List Bool => 1 * xs.length) x.accept : Nat) + ((sumW (fun xs : List GPush => 2 * xs.length)) x.call : Nat) + ((sumW (sumW (fun xs : List Int => 1 * xs.length))) x.ret : Nat))⟩
theorem markC_Checker : MarkC (α := GChecker) fns i_laws_markChecker wChecker mkChecker := by
  intro σ ids p x k h hg hk hk2
  obtain ⟨i0, p0, i1, p1, i2, p2, i3, p3, i4, p4, i5, p5, rfl, rfl, ⟨rfl, rfl⟩, ⟨rfl, rfl⟩, h2, h3, h4, h5⟩ := h.own
  have nd := h.nd
  have lt := h.lt
  have hbel := h.bel
  simp only [wChecker, Int.natCast_add] at hk2 ⊢
  simp only [List.nodup_append, List.mem_append, List.append_assoc, List.nil_append, List.append_nil] at nd lt
  have hg0 : Gud (σ ++ [AObj.row 6 [PV.agg [Enc.pv x.stack, Enc.pv x.start, p2, p3, p4, p5]] 0]) := by
    unfold Gud
    rw [List.length_append]
    refine objsBel_app (objsBel_mono (by omega) hg) ?_
    simp only [objsBel, PV.bels, Bool.and_true]
    exact PV.bel_le (by omega) hbel
  have y : (σ ++ [AObj.row 6 [PV.agg [Enc.pv x.stack, Enc.pv x.start, p2, p3, p4, p5]] 0])[σ.length]? = some (AObj.row 6 [PV.agg [Enc.pv x.stack, Enc.pv x.start, p2, p3, p4, p5]] 0) := by simp
  have h2 := (OwnIn.grow [AObj.row 6 [PV.agg [Enc.pv x.stack, Enc.pv x.start, p2, p3, p4, p5]] 0] (⟨h2, by grind, fun j hj => lt j (by grind)⟩ : OwnIn σ i2 p2 x.accept)).own
  have h3 := (OwnIn.grow [AObj.row 6 [PV.agg [Enc.pv x.stack, Enc.pv x.start, p2, p3, p4, p5]] 0] (⟨h3, by grind, fun j hj => lt j (by grind)⟩ : OwnIn σ i3 p3 x.call)).own
  have h4 := (OwnIn.grow [AObj.row 6 [PV.agg [Enc.pv x.stack, Enc.pv x.start, p2, p3, p4, p5]] 0] (⟨h4, by grind, fun j hj => lt j (by grind)⟩ : OwnIn σ i4 p4 x.ret)).own
  have h5 := (OwnIn.grow [AObj.row 6 [PV.agg [Enc.pv x.stack, Enc.pv x.start, p2, p3, p4, p5]] 0] (⟨h5, by grind, fun j hj => lt j (by grind)⟩ : OwnIn σ i5 p5 x.inner)).own
  have o2 : OwnIn (σ ++ [AObj.row 6 [PV.agg [Enc.pv x.stack, Enc.pv x.start, p2, p3, p4, p5]] 0]) i2 p2 x.accept := ⟨h2, by grind, fun j hj => by rw [List.length_append]; have := lt j (by grind); omega⟩
  obtain ⟨σ2, e2, n2, l2, k2, g2, t2⟩ := markC_BoolS (σ ++ [AObj.row 6 [PV.agg [Enc.pv x.stack, Enc.pv x.start, p2, p3, p4, p5]] 0]) i2 p2 x.accept (k) o2 hg0 (by first | omega | (dsimp only; omega)) (by first | omega | (dsimp only; omega))
  have y2 : σ2[σ.length]? = some (AObj.row 6 [PV.agg [Enc.pv x.stack, Enc.pv x.start, p2, p3, p4, p5]] 0) := by rw [k2 σ.length fun hj => by have := lt σ.length (by grind); omega]; exact y
  have f3 := Own.frame h3 (σ' := σ2) fun j hj => k2 j (by grind)
  have f4 := Own.frame h4 (σ' := σ2) fun j hj => k2 j (by grind)
  have f5 := Own.frame h5 (σ' := σ2) fun j hj => k2 j (by grind)
  have q2 := n2.own
  have o3 : OwnIn σ2 i3 p3 x.call := ⟨f3, by grind, fun j hj => by rw [l2]; rw [List.length_append]; have := lt j (by grind); omega⟩
  obtain ⟨σ3, e3, n3, l3, k3, g3, t3⟩ := markC_PushSS σ2 i3 p3 x.call (k + ((fun xs : List Bool => 1 * xs.length) x.accept : Nat)) o3 g2 (by first | omega | (dsimp only; omega)) (by first | omega | (dsimp only; omega))
  have y3 : σ3[σ.length]? = some (AObj.row 6 [PV.agg [Enc.pv x.stack, Enc.pv x.start, p2, p3, p4, p5]] 0) := by rw [k3 σ.length fun hj => by have := lt σ.length (by grind); omega]; exact y2
  have q2 := Own.frame q2 (σ' := σ3) fun j hj => k3 j (by grind)
  have f4 := Own.frame f4 (σ' := σ3) fun j hj => k3 j (by grind)
  have f5 := Own.frame f5 (σ' := σ3) fun j hj => k3 j (by grind)
  have q3 := n3.own
  have o4 : OwnIn σ3 i4 p4 x.ret := ⟨f4, by grind, fun j hj => by rw [l3, l2]; rw [List.length_append]; have := lt j (by grind); omega⟩
  obtain ⟨σ4, e4, n4, l4, k4, g4, t4⟩ := markC_Int64SSS σ3 i4 p4 x.ret (k + ((fun xs : List Bool => 1 * xs.length) x.accept : Nat) + ((sumW (fun xs : List GPush => 2 * xs.length)) x.call : Nat)) o4 g3 (by first | omega | (dsimp only; omega)) (by first | omega | (dsimp only; omega))
  have y4 : σ4[σ.length]? = some (AObj.row 6 [PV.agg [Enc.pv x.stack, Enc.pv x.start, p2, p3, p4, p5]] 0) := by rw [k4 σ.length fun hj => by have := lt σ.length (by grind); omega]; exact y3
  have q2 := Own.frame q2 (σ' := σ4) fun j hj => k4 j (by grind)
  have q3 := Own.frame q3 (σ' := σ4) fun j hj => k4 j (by grind)
  have f5 := Own.frame f5 (σ' := σ4) fun j hj => k4 j (by grind)
  have q4 := n4.own
  have o5 : OwnIn σ4 i5 p5 x.inner := ⟨f5, by grind, fun j hj => by rw [l4, l3, l2]; rw [List.length_append]; have := lt j (by grind); omega⟩
  obtain ⟨σ5, e5, n5, l5, k5, g5, t5⟩ := markC_Int64SS σ4 i5 p5 x.inner (k + ((fun xs : List Bool => 1 * xs.length) x.accept : Nat) + ((sumW (fun xs : List GPush => 2 * xs.length)) x.call : Nat) + ((sumW (sumW (fun xs : List Int => 1 * xs.length))) x.ret : Nat)) o5 g4 (by first | omega | (dsimp only; omega)) (by first | omega | (dsimp only; omega))
  have y5 : σ5[σ.length]? = some (AObj.row 6 [PV.agg [Enc.pv x.stack, Enc.pv x.start, p2, p3, p4, p5]] 0) := by rw [k5 σ.length fun hj => by have := lt σ.length (by grind); omega]; exact y4
  have q2 := Own.frame q2 (σ' := σ5) fun j hj => k5 j (by grind)
  have q3 := Own.frame q3 (σ' := σ5) fun j hj => k5 j (by grind)
  have q4 := Own.frame q4 (σ' := σ5) fun j hj => k5 j (by grind)
  have q5 := n5.own
  have ll : σ5.length = σ.length + 1 := by rw [l5, l4, l3, l2, List.length_append]; rfl
  have tk : TkB (σ ++ [AObj.row 6 [PV.agg [Enc.pv x.stack, Enc.pv x.start, p2, p3, p4, p5]] 0]) σ5 := (((t2.trans t3).trans t4).trans t5)
  have gt : objsBel σ.length (σ5.take σ.length) = true := tk σ.length σ.length (by rw [List.take_left]; exact hg)
  have fr : ∀ {u : Nat}, u < σ.length → (σ5.take σ.length)[u]? = σ5[u]? := fun hu => by rw [List.getElem?_take]; simp [hu]
  have q2 := Own.frame q2 (σ' := σ5.take σ.length) fun j hj => fr (lt j (by grind))
  have q3 := Own.frame q3 (σ' := σ5.take σ.length) fun j hj => fr (lt j (by grind))
  have q4 := Own.frame q4 (σ' := σ5.take σ.length) fun j hj => fr (lt j (by grind))
  have q5 := Own.frame q5 (σ' := σ5.take σ.length) fun j hj => fr (lt j (by grind))
  refine ⟨σ5.take σ.length, ?_, ⟨⟨[], _, [], _, i2, p2, i3, p3, i4, p4, i5, p5, rfl, rfl, ⟨rfl, rfl⟩, ⟨rfl, rfl⟩, q2, q3, q4, q5⟩, h.nd, fun j hj => ?_⟩, ?_, fun j hj => ?_, ?_, ?_⟩
  · refine go_laws_markChecker (by simp) ?_
    unfold Gud at g5
    have kn2 := (own_one h2).2.2.2
    have kn3 := (own_one h3).2.2.2
    have kn4 := (own_one h4).2.2.2
    have kn5 := (own_one h5).2.2.2
    simp at e2 kn2 e3 kn3 e4 kn4 e5 kn5
    simp [ac_laws_markChecker, e2, kn2, y2, e3, kn3, y3, e4, kn4, y4, e5, kn5, y5, g5, ll, gt]
    try first | omega | (congr 4; omega)
  · rw [List.length_take, ll]; have := h.lt j hj; omega
  · rw [List.length_take, ll]; omega
  · simp only [List.mem_append, List.append_assoc] at hj
    by_cases hl : j < σ.length
    · rw [fr hl, k5 j (by grind), k4 j (by grind), k3 j (by grind), k2 j (by grind), List.getElem?_append_left hl]
    · rw [List.getElem?_eq_none (by rw [List.length_take, ll]; omega), List.getElem?_eq_none (by omega)]
  · unfold Gud; rw [List.length_take, ll, show min σ.length (σ.length + 1) = σ.length by omega]; exact gt
  · intro m l hm
    rw [List.take_take]
    refine tk m _ ?_
    rw [List.take_append_of_le_length (by omega)]
    by_cases hl : l ≤ σ.length
    · rw [show min l σ.length = l by omega]; exact hm
    · rw [show min l σ.length = σ.length by omega, List.take_length]; rwa [List.take_of_length_le (by omega)] at hm

theorem heldC_Checker : HeldC (α := GChecker) fns i_laws_heldChecker wChecker mkChecker := by
  intro σ ids p x k ho hk hk2
  obtain ⟨i0, p0, i1, p1, i2, p2, i3, p3, i4, p4, i5, p5, rfl, rfl, h0, h1, h2, h3, h4, h5⟩ := ho
  simp only [wChecker, Int.natCast_add] at hk2 ⊢
  have e2 := heldC_BoolS σ i2 p2 x.accept (k) h2 (by first | omega | (dsimp only; omega)) (by first | omega | (dsimp only; omega))
  have e3 := heldC_PushSS σ i3 p3 x.call (k + ((fun xs : List Bool => 1 * xs.length) x.accept : Nat)) h3 (by first | omega | (dsimp only; omega)) (by first | omega | (dsimp only; omega))
  have e4 := heldC_Int64SSS σ i4 p4 x.ret (k + ((fun xs : List Bool => 1 * xs.length) x.accept : Nat) + ((sumW (fun xs : List GPush => 2 * xs.length)) x.call : Nat)) h4 (by first | omega | (dsimp only; omega)) (by first | omega | (dsimp only; omega))
  have e5 := heldC_Int64SS σ i5 p5 x.inner (k + ((fun xs : List Bool => 1 * xs.length) x.accept : Nat) + ((sumW (fun xs : List GPush => 2 * xs.length)) x.call : Nat) + ((sumW (sumW (fun xs : List Int => 1 * xs.length))) x.ret : Nat)) h5 (by first | omega | (dsimp only; omega)) (by first | omega | (dsimp only; omega))
  refine go_laws_heldChecker (by simp) ?_
  simp at e2 e3 e4 e5
  simp [ac_laws_heldChecker, mkChecker, e2, e3, e4, e5, show ¬ (k + (x.accept.length : Nat) < 0) by omega, show ¬ (k + (x.accept.length : Nat) + ((sumW (fun xs : List GPush => 2 * xs.length)) x.call : Nat) < 0) by omega, show ¬ (k + (x.accept.length : Nat) + ((sumW (fun xs : List GPush => 2 * xs.length)) x.call : Nat) + ((sumW (sumW (fun xs : List Int => xs.length))) x.ret : Nat) < 0) by omega, show ¬ (k + (x.accept.length : Nat) + ((sumW (fun xs : List GPush => 2 * xs.length)) x.call : Nat) + ((sumW (sumW (fun xs : List Int => xs.length))) x.ret : Nat) + ((sumW (fun xs : List Int => xs.length)) x.inner : Nat) < 0) by omega]
  all_goals first | omega | (intros; omega)

end Go.Proofs.Ytoliadfdklfmfaa
