/- Owned data of the laws' types: made, marked and held; printed by a program (mk.py). -/
import Derived.Test.YtegjfjckijmgcaaDat
import Derived.Test.YtegjfjckijmgcaaAw34
import Derived.Test.YtegjfjckijmgcaaMText
set_option linter.unusedVariables false
set_option linter.unusedSimpArgs false
set_option maxRecDepth 100000
namespace Go.Proofs.Ytegjfjckijmgcaa
open Aw

theorem own_one {α : Type} [Enc α] [Own α] {σ : List AObj} {ids : List Nat} {p : PV} {xs : List α} (h : Own.own σ ids p xs) : p.cells.length = 1 ∧ p.okc = true ∧ p.cells = [p] ∧ p.one = true := by
  rcases h with ⟨rfl, rfl, rfl⟩ | ⟨id, ver, es, is, rfl, _⟩ <;> simp [PV.cells, PV.okc, PV.one, Value.oneCell']
theorem PV.okc_sh {p : PV} {k : Nat} (h : p.okc = true) (hc : p.cells = [p]) : (p.sh k).okc = true := by
  cases p with
  | agg ps =>
    simp only [PV.cells] at hc
    have h1 : ps.length = 1 := by rw [hc]; rfl
    match ps, h1 with
    | [q], _ => simp at hc; have := congrArg SizeOf.sizeOf hc; simp at this; omega
  | _ => simp_all [PV.sh, PV.okc, PV.one]

instance : Own GOutPush := ⟨.any, 2, fun _ ids p x => ids = [] ∧ p = Enc.pv x, fun h _ => h, fun {σ ids p x} h d hd => by
  obtain ⟨d, rfl⟩ : ∃ e, d = e + 2 := ⟨d - 2, by omega⟩
  exact ⟨p, by rw [h.2]; exact PV.flat_dfr (Enc.flat x) σ d, by simp [h.2]⟩,
  fun {σ} τ {ids p x} h => ⟨by simp [h.1], by rw [h.2]; simp [PV.sh, PV.shs]⟩, fun h _ => by rw [h.2]; simp [PV.bel, PV.bels], fun h => by rw [h.2]; simp [PV.nl, PV.nls]⟩
theorem own_OutPush {σ : List AObj} {ids : List Nat} {p : PV} {x : GOutPush} : Own.own σ ids p x ↔ ids = [] ∧ p = x.v := Iff.rfl
instance : Flat GOutPush := ⟨fun {σ ids p x} => Iff.rfl⟩
def tl_laws_markOutPushS : AC := (.ghost (.kill [0, 5]) (.seq (.post (.reg [⟨(some 34), .op (.mv (.tmp 1)), none⟩,
    ⟨(some 4), .op (.mv (.tmp 34)), none⟩]) (.kill [1, 34]))
  .ret))
theorem markC_OutPushS : MarkC (α := List GOutPush) fns i_laws_markOutPushS (fun xs : List GOutPush => 3 * xs.length) (mkF 3 (fun k => (⟨k, k + 1, mtext (k + 2)⟩ : GOutPush))) :=
  markC_flat 3 (fun k => (⟨k, k + 1, mtext (k + 2)⟩ : GOutPush)) (fun n0 id ver n i k σ => rE fns fa_laws_markOutPushS n0 [.code lo_laws_markOutPushS_0, .inBlock 0, .code tl_laws_markOutPushS] [(5, i64 (i : Nat)), (1, i64 k), (0, .own id ver 0 n)] σ)
    (fun id ver n k σ r h => by
      refine go_laws_markOutPushS (by simp) ?_
      simp [tl_laws_markOutPushS] at h
      simp [ac_laws_markOutPushS, h])
    (fun n0 id ver n i k σ xs h hlt h2 hn hb hk hk2 => by
      have hw := wrap_i64 (n := i + 1) (by omega)
      have w1 := wrap_i64 (n := k + 1) (by omega)
      have w2 := wrap_i64 (n := k + 2) (by omega)
      have w3 := wrap_i64 (n := k + 3) (by omega)
      have v1 := wrap_i64 (n := k + 1 + 1) (by omega)
      have v2 := wrap_i64 (n := k + 2 + 1) (by omega)
      have u1 : k + 1 + 1 = k + 2 := by omega
      have u2 : k + 2 + 1 = k + 3 := by omega
      have m2 := ev_laws_markText (k + 2) (by omega)
      simp at m2
      subst hn
      simp at h2
      have hset : ∀ r, (σ.set id r)[id]? = some r := fun r => List.getElem?_set_self hlt
      rw [l_laws_markOutPushS_0]
      simp [lb_laws_markOutPushS_0, h, hset, h2, hw, w1, w2, w3, v1, u1, v2, u2, m2, setCells, List.map_set])
    (fun id ver n k σ hg => by
      unfold Good at hg
      rw [l_laws_markOutPushS_0]
      simp [lb_laws_markOutPushS_0, tl_laws_markOutPushS, hg])
    (fun k σ hg => by
      unfold Good at hg
      refine go_laws_markOutPushS (by simp) ?_
      simp [ac_laws_markOutPushS, l_laws_markOutPushS_0, lb_laws_markOutPushS_0, hg])

def tl_laws_heldOutPushS : AC := (.ghost (.kill [0, 5]) (.seq (.post (.reg [⟨(some 40), .op (.mv (.tmp 1)), none⟩,
    ⟨(some 4), .op (.mv (.tmp 40)), none⟩]) (.kill [1, 40]))
  .ret))
theorem heldC_OutPushS : HeldC (α := List GOutPush) fns i_laws_heldOutPushS (fun xs : List GOutPush => 3 * xs.length) (mkF 3 (fun k => (⟨k, k + 1, mtext (k + 2)⟩ : GOutPush))) :=
  heldC_flat 3 (fun k => (⟨k, k + 1, mtext (k + 2)⟩ : GOutPush)) (fun ys i k => rE fns fa_laws_heldOutPushS 0 [.code lo_laws_heldOutPushS_0, .inBlock 0, .code tl_laws_heldOutPushS] [(5, i64 (i : Nat)), (1, i64 k), (0, lst 3 ys)] [])
    (fun ys k r h => by
      refine go_laws_heldOutPushS (by simp) ?_
      simp [tl_laws_heldOutPushS] at h
      simp [ac_laws_heldOutPushS, h])
    (fun ys i k h hk hk2 hl hy => by
      have hw := wrap_i64 (n := i + 1) (by omega)
      have w1 := wrap_i64 (n := k + 1) (by omega)
      have w2 := wrap_i64 (n := k + 2) (by omega)
      have w3 := wrap_i64 (n := k + 3) (by omega)
      have v1 := wrap_i64 (n := k + 1 + 1) (by omega)
      have v2 := wrap_i64 (n := k + 2 + 1) (by omega)
      have u1 : k + 1 + 1 = k + 2 := by omega
      have u2 : k + 2 + 1 = k + 3 := by omega
      have m2 := ev_laws_markText (k + 2) (by omega)
      simp at m2
      rw [l_laws_heldOutPushS_0]
      simp [lb_laws_heldOutPushS_0, h, hy, hw, w1, w2, w3, v1, u1, v2, u2, m2])
    (fun ys k => by
      rw [l_laws_heldOutPushS_0]
      simp [lb_laws_heldOutPushS_0, tl_laws_heldOutPushS])

def tl_laws_markOutPushSS : AC := (.ghost (.kill [0, 5]) (.seq (.post (.reg [⟨(some 18), .op (.mv (.tmp 1)), none⟩,
    ⟨(some 4), .op (.mv (.tmp 18)), none⟩]) (.kill [1, 18]))
  .ret))
theorem markC_OutPushSS : MarkC (α := List (List GOutPush)) fns i_laws_markOutPushSS (sumW (fun xs : List GOutPush => 3 * xs.length)) (mkL (fun xs : List GOutPush => 3 * xs.length) (mkF 3 (fun k => (⟨k, k + 1, mtext (k + 2)⟩ : GOutPush)))) :=
  markC_list markC_OutPushS (fun n0 id ver n i k σ => rE fns fa_laws_markOutPushSS n0 [.code lo_laws_markOutPushSS_0, .inBlock 0, .code tl_laws_markOutPushSS] [(5, i64 (i : Nat)), (1, i64 k), (0, .own id ver 0 n)] σ)
    (fun id ver n k σ r h => by
      refine go_laws_markOutPushSS (by simp) ?_
      simp [tl_laws_markOutPushSS] at h
      simp [ac_laws_markOutPushSS, h])
    (fun n0 id ver n i k k' σ σ' es p h2 hl hn hi hp ho hc hev => by
      have hw := wrap_i64 (n := i + 1) (by omega)
      have hi' : i < es.length := by omega
      have hp' : es[i] = p := by rw [List.getElem?_eq_getElem hi'] at hp; exact Option.some.inj hp
      simp at h2 hev hc
      rw [l_laws_markOutPushSS_0]
      simp [lb_laws_markOutPushSS_0, hi, hl, h2, hw, hp', hc, hev])
    (fun id ver n k σ hg => by
      unfold Good at hg
      rw [l_laws_markOutPushSS_0]
      simp [lb_laws_markOutPushSS_0, tl_laws_markOutPushSS, hg])
    (fun k σ hg => by
      unfold Good at hg
      refine go_laws_markOutPushSS (by simp) ?_
      simp [ac_laws_markOutPushSS, l_laws_markOutPushSS_0, lb_laws_markOutPushSS_0, hg])
    (fun σ ids p x h => ⟨(own_one h).2.1, (own_one h).2.2.1⟩)

def tl_laws_heldOutPushSS : AC := (.ghost (.kill [0, 5]) (.seq (.post (.reg [⟨(some 20), .op (.mv (.tmp 1)), none⟩,
    ⟨(some 4), .op (.mv (.tmp 20)), none⟩]) (.kill [1, 20]))
  .ret))
theorem heldC_OutPushSS : HeldC (α := List (List GOutPush)) fns i_laws_heldOutPushSS (sumW (fun xs : List GOutPush => 3 * xs.length)) (mkL (fun xs : List GOutPush => 3 * xs.length) (mkF 3 (fun k => (⟨k, k + 1, mtext (k + 2)⟩ : GOutPush)))) :=
  heldC_list heldC_OutPushS (fun ys i k => rE fns fa_laws_heldOutPushSS 0 [.code lo_laws_heldOutPushSS_0, .inBlock 0, .code tl_laws_heldOutPushSS] [(5, i64 (i : Nat)), (1, i64 k), (0, lst 1 ys)] [])
    (fun ys k r h => by
      refine go_laws_heldOutPushSS (by simp) ?_
      simp [tl_laws_heldOutPushSS] at h
      simp [ac_laws_heldOutPushSS, h])
    (fun ys i k k' h hk hl hev => by
      have hw := wrap_i64 (n := i + 1) (by omega)
      simp at hev
      rw [l_laws_heldOutPushSS_0]
      simp [lb_laws_heldOutPushSS_0, h, hw, hev, show ¬ (k' < 0) by omega])
    (fun ys k => by
      rw [l_laws_heldOutPushSS_0]
      simp [lb_laws_heldOutPushSS_0, tl_laws_heldOutPushSS])

instance : Own GOutMove := ⟨.any, 2, fun _ ids p x => ids = [] ∧ p = Enc.pv x, fun h _ => h, fun {σ ids p x} h d hd => by
  obtain ⟨d, rfl⟩ : ∃ e, d = e + 2 := ⟨d - 2, by omega⟩
  exact ⟨p, by rw [h.2]; exact PV.flat_dfr (Enc.flat x) σ d, by simp [h.2]⟩,
  fun {σ} τ {ids p x} h => ⟨by simp [h.1], by rw [h.2]; simp [PV.sh, PV.shs]⟩, fun h _ => by rw [h.2]; simp [PV.bel, PV.bels], fun h => by rw [h.2]; simp [PV.nl, PV.nls]⟩
theorem own_OutMove {σ : List AObj} {ids : List Nat} {p : PV} {x : GOutMove} : Own.own σ ids p x ↔ ids = [] ∧ p = x.v := Iff.rfl
instance : Flat GOutMove := ⟨fun {σ ids p x} => Iff.rfl⟩
def tl_laws_markOutMoveS : AC := (.ghost (.kill [0, 5]) (.seq (.post (.reg [⟨(some 27), .op (.mv (.tmp 1)), none⟩,
    ⟨(some 4), .op (.mv (.tmp 27)), none⟩]) (.kill [1, 27]))
  .ret))
theorem markC_OutMoveS : MarkC (α := List GOutMove) fns i_laws_markOutMoveS (fun xs : List GOutMove => 2 * xs.length) (mkF 2 (fun k => (⟨k, mtext (k + 1)⟩ : GOutMove))) :=
  markC_flat 2 (fun k => (⟨k, mtext (k + 1)⟩ : GOutMove)) (fun n0 id ver n i k σ => rE fns fa_laws_markOutMoveS n0 [.code lo_laws_markOutMoveS_0, .inBlock 0, .code tl_laws_markOutMoveS] [(5, i64 (i : Nat)), (1, i64 k), (0, .own id ver 0 n)] σ)
    (fun id ver n k σ r h => by
      refine go_laws_markOutMoveS (by simp) ?_
      simp [tl_laws_markOutMoveS] at h
      simp [ac_laws_markOutMoveS, h])
    (fun n0 id ver n i k σ xs h hlt h2 hn hb hk hk2 => by
      have hw := wrap_i64 (n := i + 1) (by omega)
      have w1 := wrap_i64 (n := k + 1) (by omega)
      have w2 := wrap_i64 (n := k + 2) (by omega)
      have v1 := wrap_i64 (n := k + 1 + 1) (by omega)
      have u1 : k + 1 + 1 = k + 2 := by omega
      have m1 := ev_laws_markText (k + 1) (by omega)
      simp at m1
      subst hn
      simp at h2
      have hset : ∀ r, (σ.set id r)[id]? = some r := fun r => List.getElem?_set_self hlt
      rw [l_laws_markOutMoveS_0]
      simp [lb_laws_markOutMoveS_0, h, hset, h2, hw, w1, w2, v1, u1, m1, setCells, List.map_set])
    (fun id ver n k σ hg => by
      unfold Good at hg
      rw [l_laws_markOutMoveS_0]
      simp [lb_laws_markOutMoveS_0, tl_laws_markOutMoveS, hg])
    (fun k σ hg => by
      unfold Good at hg
      refine go_laws_markOutMoveS (by simp) ?_
      simp [ac_laws_markOutMoveS, l_laws_markOutMoveS_0, lb_laws_markOutMoveS_0, hg])

def tl_laws_heldOutMoveS : AC := (.ghost (.kill [0, 5]) (.seq (.post (.reg [⟨(some 31), .op (.mv (.tmp 1)), none⟩,
    ⟨(some 4), .op (.mv (.tmp 31)), none⟩]) (.kill [1, 31]))
  .ret))
theorem heldC_OutMoveS : HeldC (α := List GOutMove) fns i_laws_heldOutMoveS (fun xs : List GOutMove => 2 * xs.length) (mkF 2 (fun k => (⟨k, mtext (k + 1)⟩ : GOutMove))) :=
  heldC_flat 2 (fun k => (⟨k, mtext (k + 1)⟩ : GOutMove)) (fun ys i k => rE fns fa_laws_heldOutMoveS 0 [.code lo_laws_heldOutMoveS_0, .inBlock 0, .code tl_laws_heldOutMoveS] [(5, i64 (i : Nat)), (1, i64 k), (0, lst 2 ys)] [])
    (fun ys k r h => by
      refine go_laws_heldOutMoveS (by simp) ?_
      simp [tl_laws_heldOutMoveS] at h
      simp [ac_laws_heldOutMoveS, h])
    (fun ys i k h hk hk2 hl hy => by
      have hw := wrap_i64 (n := i + 1) (by omega)
      have w1 := wrap_i64 (n := k + 1) (by omega)
      have w2 := wrap_i64 (n := k + 2) (by omega)
      have v1 := wrap_i64 (n := k + 1 + 1) (by omega)
      have u1 : k + 1 + 1 = k + 2 := by omega
      have m1 := ev_laws_markText (k + 1) (by omega)
      simp at m1
      rw [l_laws_heldOutMoveS_0]
      simp [lb_laws_heldOutMoveS_0, h, hy, hw, w1, w2, v1, u1, m1])
    (fun ys k => by
      rw [l_laws_heldOutMoveS_0]
      simp [lb_laws_heldOutMoveS_0, tl_laws_heldOutMoveS])

def tl_laws_markOutMoveSS : AC := (.ghost (.kill [0, 5]) (.seq (.post (.reg [⟨(some 18), .op (.mv (.tmp 1)), none⟩,
    ⟨(some 4), .op (.mv (.tmp 18)), none⟩]) (.kill [1, 18]))
  .ret))
theorem markC_OutMoveSS : MarkC (α := List (List GOutMove)) fns i_laws_markOutMoveSS (sumW (fun xs : List GOutMove => 2 * xs.length)) (mkL (fun xs : List GOutMove => 2 * xs.length) (mkF 2 (fun k => (⟨k, mtext (k + 1)⟩ : GOutMove)))) :=
  markC_list markC_OutMoveS (fun n0 id ver n i k σ => rE fns fa_laws_markOutMoveSS n0 [.code lo_laws_markOutMoveSS_0, .inBlock 0, .code tl_laws_markOutMoveSS] [(5, i64 (i : Nat)), (1, i64 k), (0, .own id ver 0 n)] σ)
    (fun id ver n k σ r h => by
      refine go_laws_markOutMoveSS (by simp) ?_
      simp [tl_laws_markOutMoveSS] at h
      simp [ac_laws_markOutMoveSS, h])
    (fun n0 id ver n i k k' σ σ' es p h2 hl hn hi hp ho hc hev => by
      have hw := wrap_i64 (n := i + 1) (by omega)
      have hi' : i < es.length := by omega
      have hp' : es[i] = p := by rw [List.getElem?_eq_getElem hi'] at hp; exact Option.some.inj hp
      simp at h2 hev hc
      rw [l_laws_markOutMoveSS_0]
      simp [lb_laws_markOutMoveSS_0, hi, hl, h2, hw, hp', hc, hev])
    (fun id ver n k σ hg => by
      unfold Good at hg
      rw [l_laws_markOutMoveSS_0]
      simp [lb_laws_markOutMoveSS_0, tl_laws_markOutMoveSS, hg])
    (fun k σ hg => by
      unfold Good at hg
      refine go_laws_markOutMoveSS (by simp) ?_
      simp [ac_laws_markOutMoveSS, l_laws_markOutMoveSS_0, lb_laws_markOutMoveSS_0, hg])
    (fun σ ids p x h => ⟨(own_one h).2.1, (own_one h).2.2.1⟩)

def tl_laws_heldOutMoveSS : AC := (.ghost (.kill [0, 5]) (.seq (.post (.reg [⟨(some 20), .op (.mv (.tmp 1)), none⟩,
    ⟨(some 4), .op (.mv (.tmp 20)), none⟩]) (.kill [1, 20]))
  .ret))
theorem heldC_OutMoveSS : HeldC (α := List (List GOutMove)) fns i_laws_heldOutMoveSS (sumW (fun xs : List GOutMove => 2 * xs.length)) (mkL (fun xs : List GOutMove => 2 * xs.length) (mkF 2 (fun k => (⟨k, mtext (k + 1)⟩ : GOutMove)))) :=
  heldC_list heldC_OutMoveS (fun ys i k => rE fns fa_laws_heldOutMoveSS 0 [.code lo_laws_heldOutMoveSS_0, .inBlock 0, .code tl_laws_heldOutMoveSS] [(5, i64 (i : Nat)), (1, i64 k), (0, lst 1 ys)] [])
    (fun ys k r h => by
      refine go_laws_heldOutMoveSS (by simp) ?_
      simp [tl_laws_heldOutMoveSS] at h
      simp [ac_laws_heldOutMoveSS, h])
    (fun ys i k k' h hk hl hev => by
      have hw := wrap_i64 (n := i + 1) (by omega)
      simp at hev
      rw [l_laws_heldOutMoveSS_0]
      simp [lb_laws_heldOutMoveSS_0, h, hw, hev, show ¬ (k' < 0) by omega])
    (fun ys k => by
      rw [l_laws_heldOutMoveSS_0]
      simp [lb_laws_heldOutMoveSS_0, tl_laws_heldOutMoveSS])

def tl_laws_markOutMoveSSS : AC := (.ghost (.kill [0, 5]) (.seq (.post (.reg [⟨(some 18), .op (.mv (.tmp 1)), none⟩,
    ⟨(some 4), .op (.mv (.tmp 18)), none⟩]) (.kill [1, 18]))
  .ret))
theorem markC_OutMoveSSS : MarkC (α := List (List (List GOutMove))) fns i_laws_markOutMoveSSS (sumW (sumW (fun xs : List GOutMove => 2 * xs.length))) (mkL (sumW (fun xs : List GOutMove => 2 * xs.length)) (mkL (fun xs : List GOutMove => 2 * xs.length) (mkF 2 (fun k => (⟨k, mtext (k + 1)⟩ : GOutMove))))) :=
  markC_list markC_OutMoveSS (fun n0 id ver n i k σ => rE fns fa_laws_markOutMoveSSS n0 [.code lo_laws_markOutMoveSSS_0, .inBlock 0, .code tl_laws_markOutMoveSSS] [(5, i64 (i : Nat)), (1, i64 k), (0, .own id ver 0 n)] σ)
    (fun id ver n k σ r h => by
      refine go_laws_markOutMoveSSS (by simp) ?_
      simp [tl_laws_markOutMoveSSS] at h
      simp [ac_laws_markOutMoveSSS, h])
    (fun n0 id ver n i k k' σ σ' es p h2 hl hn hi hp ho hc hev => by
      have hw := wrap_i64 (n := i + 1) (by omega)
      have hi' : i < es.length := by omega
      have hp' : es[i] = p := by rw [List.getElem?_eq_getElem hi'] at hp; exact Option.some.inj hp
      simp at h2 hev hc
      rw [l_laws_markOutMoveSSS_0]
      simp [lb_laws_markOutMoveSSS_0, hi, hl, h2, hw, hp', hc, hev])
    (fun id ver n k σ hg => by
      unfold Good at hg
      rw [l_laws_markOutMoveSSS_0]
      simp [lb_laws_markOutMoveSSS_0, tl_laws_markOutMoveSSS, hg])
    (fun k σ hg => by
      unfold Good at hg
      refine go_laws_markOutMoveSSS (by simp) ?_
      simp [ac_laws_markOutMoveSSS, l_laws_markOutMoveSSS_0, lb_laws_markOutMoveSSS_0, hg])
    (fun σ ids p x h => ⟨(own_one h).2.1, (own_one h).2.2.1⟩)

def tl_laws_heldOutMoveSSS : AC := (.ghost (.kill [0, 5]) (.seq (.post (.reg [⟨(some 20), .op (.mv (.tmp 1)), none⟩,
    ⟨(some 4), .op (.mv (.tmp 20)), none⟩]) (.kill [1, 20]))
  .ret))
theorem heldC_OutMoveSSS : HeldC (α := List (List (List GOutMove))) fns i_laws_heldOutMoveSSS (sumW (sumW (fun xs : List GOutMove => 2 * xs.length))) (mkL (sumW (fun xs : List GOutMove => 2 * xs.length)) (mkL (fun xs : List GOutMove => 2 * xs.length) (mkF 2 (fun k => (⟨k, mtext (k + 1)⟩ : GOutMove))))) :=
  heldC_list heldC_OutMoveSS (fun ys i k => rE fns fa_laws_heldOutMoveSSS 0 [.code lo_laws_heldOutMoveSSS_0, .inBlock 0, .code tl_laws_heldOutMoveSSS] [(5, i64 (i : Nat)), (1, i64 k), (0, lst 1 ys)] [])
    (fun ys k r h => by
      refine go_laws_heldOutMoveSSS (by simp) ?_
      simp [tl_laws_heldOutMoveSSS] at h
      simp [ac_laws_heldOutMoveSSS, h])
    (fun ys i k k' h hk hl hev => by
      have hw := wrap_i64 (n := i + 1) (by omega)
      simp at hev
      rw [l_laws_heldOutMoveSSS_0]
      simp [lb_laws_heldOutMoveSSS_0, h, hw, hev, show ¬ (k' < 0) by omega])
    (fun ys k => by
      rw [l_laws_heldOutMoveSSS_0]
      simp [lb_laws_heldOutMoveSSS_0, tl_laws_heldOutMoveSSS])

def ownRewriter (σ : List AObj) (ids : List Nat) (p : PV) (x : GRewriter) : Prop := ∃ i0 p0 i1 p1 i2 p2 i3 p3 i4 p4, ids = i0 ++ i1 ++ i2 ++ i3 ++ i4 ∧ p = .agg [p0, p1, p2, p3, p4] ∧ Own.own σ i0 p0 x.stack ∧ Own.own σ i1 p1 x.start ∧ Own.own σ i2 p2 x.call ∧ Own.own σ i3 p3 x.ret ∧ Own.own σ i4 p4 x.inner
instance : Own GRewriter := ⟨.agg [Own.sh (Int), Own.sh (Int), Own.sh (List (List GOutPush)), Own.sh (List (List (List GOutMove))), Own.sh (List (List GOutMove))], max (Own.dep (Int)) (max (Own.dep (Int)) (max (Own.dep (List (List GOutPush))) (max (Own.dep (List (List (List GOutMove)))) (Own.dep (List (List GOutMove)))))) + 1, ownRewriter,
  fun {σ σ' ids p x} h k => by
    obtain ⟨i0, p0, i1, p1, i2, p2, i3, p3, i4, p4, rfl, rfl, h0, h1, h2, h3, h4⟩ := h
    exact ⟨i0, p0, i1, p1, i2, p2, i3, p3, i4, p4, rfl, rfl, Own.frame h0 fun i hi => k i (by simp [hi]), Own.frame h1 fun i hi => k i (by simp [hi]), Own.frame h2 fun i hi => k i (by simp [hi]), Own.frame h3 fun i hi => k i (by simp [hi]), Own.frame h4 fun i hi => k i (by simp [hi])⟩,
  fun {σ ids p x} h d hd => by
    obtain ⟨d, rfl⟩ : ∃ e, d = e + 1 := ⟨d - 1, by omega⟩
    obtain ⟨i0, p0, i1, p1, i2, p2, i3, p3, i4, p4, rfl, rfl, h0, h1, h2, h3, h4⟩ := h
    obtain ⟨q0, e0, f0⟩ := Own.read h0 d (by omega)
    obtain ⟨q1, e1, f1⟩ := Own.read h1 d (by omega)
    obtain ⟨q2, e2, f2⟩ := Own.read h2 d (by omega)
    obtain ⟨q3, e3, f3⟩ := Own.read h3 d (by omega)
    obtain ⟨q4, e4, f4⟩ := Own.read h4 d (by omega)
    refine ⟨.agg [q0, q1, q2, q3, q4], by simp [dfr, mapO, e0, e1, e2, e3, e4], ?_⟩
    simp only [PV.ty_agg, PV.tys, f0, f1, f2, f3, f4]; rfl,
  fun {σ} τ {ids p x} h => by
    obtain ⟨i0, p0, i1, p1, i2, p2, i3, p3, i4, p4, rfl, rfl, h0, h1, h2, h3, h4⟩ := h
    exact ⟨i0.map (· + τ.length), p0.sh τ.length, i1.map (· + τ.length), p1.sh τ.length, i2.map (· + τ.length), p2.sh τ.length, i3.map (· + τ.length), p3.sh τ.length, i4.map (· + τ.length), p4.sh τ.length, by simp, by simp [PV.sh, PV.shs], Own.shift τ h0, Own.shift τ h1, Own.shift τ h2, Own.shift τ h3, Own.shift τ h4⟩,
  fun {σ n ids p x} h k => by
    obtain ⟨i0, p0, i1, p1, i2, p2, i3, p3, i4, p4, rfl, rfl, h0, h1, h2, h3, h4⟩ := h
    simp only [PV.bel, PV.bels, Own.bel h0 fun i hi => k i (by simp [hi]), Own.bel h1 fun i hi => k i (by simp [hi]), Own.bel h2 fun i hi => k i (by simp [hi]), Own.bel h3 fun i hi => k i (by simp [hi]), Own.bel h4 fun i hi => k i (by simp [hi]), Bool.and_self],
  fun {σ ids p x} h => by
    obtain ⟨i0, p0, i1, p1, i2, p2, i3, p3, i4, p4, rfl, rfl, h0, h1, h2, h3, h4⟩ := h
    simp only [PV.nl, PV.nls, Own.nl h0, Own.nl h1, Own.nl h2, Own.nl h3, Own.nl h4, Bool.and_self]⟩

theorem own_Rewriter {σ : List AObj} {ids : List Nat} {p : PV} {x : GRewriter} : Own.own σ ids p x ↔ ownRewriter σ ids p x := Iff.rfl
def wRewriter (x : GRewriter) : Nat := (sumW (fun xs : List GOutPush => 3 * xs.length)) x.call + (sumW (sumW (fun xs : List GOutMove => 2 * xs.length))) x.ret + (sumW (fun xs : List GOutMove => 2 * xs.length)) x.inner
def mkRewriter (x : GRewriter) (k : Int) : GRewriter := ⟨x.stack, x.start, (mkL (fun xs : List GOutPush => 3 * xs.length) (mkF 3 (fun k => (⟨k, k + 1, mtext (k + 2)⟩ : GOutPush)))) x.call (k), (mkL (sumW (fun xs : List GOutMove => 2 * xs.length)) (mkL (fun xs : List GOutMove => 2 * xs.length) (mkF 2 (fun k => (⟨k, mtext (k + 1)⟩ : GOutMove))))) x.ret (k + ((sumW (fun xs : List GOutPush => 3 * xs.length)) x.call : Nat)), (mkL (fun xs : List GOutMove => 2 * xs.length) (mkF 2 (fun k => (⟨k, mtext (k + 1)⟩ : GOutMove)))) x.inner (k + ((sumW (fun xs : List GOutPush => 3 * xs.length)) x.call : Nat) + ((sumW (sumW (fun xs : List GOutMove => 2 * xs.length))) x.ret : Nat))⟩
theorem markC_Rewriter : MarkC (α := GRewriter) fns i_laws_markRewriter wRewriter mkRewriter := by
  intro σ ids p x k h hg hk hk2
  obtain ⟨i0, p0, i1, p1, i2, p2, i3, p3, i4, p4, rfl, rfl, ⟨rfl, rfl⟩, ⟨rfl, rfl⟩, h2, h3, h4⟩ := h.own
  have nd := h.nd
  have lt := h.lt
  have hbel := h.bel
  simp only [wRewriter, Int.natCast_add] at hk2 ⊢
  simp only [List.nodup_append, List.mem_append, List.append_assoc] at nd lt
  have hg0 : Good (σ ++ [AObj.row 5 [PV.agg [Enc.pv x.stack, Enc.pv x.start, p2, p3, p4]] 0]) := by
    unfold Good
    rw [List.length_append]
    refine objsBel_app (objsBel_mono (by omega) hg) ?_
    simp only [objsBel, PV.bels, Bool.and_true]
    exact PV.bel_le (by omega) hbel
  have y : (σ ++ [AObj.row 5 [PV.agg [Enc.pv x.stack, Enc.pv x.start, p2, p3, p4]] 0])[σ.length]? = some (AObj.row 5 [PV.agg [Enc.pv x.stack, Enc.pv x.start, p2, p3, p4]] 0) := by simp
  have h2 := (OwnIn.grow [AObj.row 5 [PV.agg [Enc.pv x.stack, Enc.pv x.start, p2, p3, p4]] 0] (⟨h2, by grind, fun j hj => lt j (by grind)⟩ : OwnIn σ i2 p2 x.call)).own
  have h3 := (OwnIn.grow [AObj.row 5 [PV.agg [Enc.pv x.stack, Enc.pv x.start, p2, p3, p4]] 0] (⟨h3, by grind, fun j hj => lt j (by grind)⟩ : OwnIn σ i3 p3 x.ret)).own
  have h4 := (OwnIn.grow [AObj.row 5 [PV.agg [Enc.pv x.stack, Enc.pv x.start, p2, p3, p4]] 0] (⟨h4, by grind, fun j hj => lt j (by grind)⟩ : OwnIn σ i4 p4 x.inner)).own
  have o2 : OwnIn (σ ++ [AObj.row 5 [PV.agg [Enc.pv x.stack, Enc.pv x.start, p2, p3, p4]] 0]) i2 p2 x.call := ⟨h2, by grind, fun j hj => by rw [List.length_append]; have := lt j (by grind); omega⟩
  obtain ⟨σ2, e2, n2, l2, k2, g2, t2⟩ := markC_OutPushSS (σ ++ [AObj.row 5 [PV.agg [Enc.pv x.stack, Enc.pv x.start, p2, p3, p4]] 0]) i2 p2 x.call (k) o2 hg0 (by first | omega | (dsimp only; omega)) (by first | omega | (dsimp only; omega))
  have y2 : σ2[σ.length]? = some (AObj.row 5 [PV.agg [Enc.pv x.stack, Enc.pv x.start, p2, p3, p4]] 0) := by rw [k2 σ.length fun hj => by have := lt σ.length (by grind); omega]; exact y
  have f3 := Own.frame h3 (σ' := σ2) fun j hj => k2 j (by grind)
  have f4 := Own.frame h4 (σ' := σ2) fun j hj => k2 j (by grind)
  have q2 := n2.own
  have o3 : OwnIn σ2 i3 p3 x.ret := ⟨f3, by grind, fun j hj => by rw [l2]; rw [List.length_append]; have := lt j (by grind); omega⟩
  obtain ⟨σ3, e3, n3, l3, k3, g3, t3⟩ := markC_OutMoveSSS σ2 i3 p3 x.ret (k + ((sumW (fun xs : List GOutPush => 3 * xs.length)) x.call : Nat)) o3 g2 (by first | omega | (dsimp only; omega)) (by first | omega | (dsimp only; omega))
  have y3 : σ3[σ.length]? = some (AObj.row 5 [PV.agg [Enc.pv x.stack, Enc.pv x.start, p2, p3, p4]] 0) := by rw [k3 σ.length fun hj => by have := lt σ.length (by grind); omega]; exact y2
  have q2 := Own.frame q2 (σ' := σ3) fun j hj => k3 j (by grind)
  have f4 := Own.frame f4 (σ' := σ3) fun j hj => k3 j (by grind)
  have q3 := n3.own
  have o4 : OwnIn σ3 i4 p4 x.inner := ⟨f4, by grind, fun j hj => by rw [l3, l2]; rw [List.length_append]; have := lt j (by grind); omega⟩
  obtain ⟨σ4, e4, n4, l4, k4, g4, t4⟩ := markC_OutMoveSS σ3 i4 p4 x.inner (k + ((sumW (fun xs : List GOutPush => 3 * xs.length)) x.call : Nat) + ((sumW (sumW (fun xs : List GOutMove => 2 * xs.length))) x.ret : Nat)) o4 g3 (by first | omega | (dsimp only; omega)) (by first | omega | (dsimp only; omega))
  have y4 : σ4[σ.length]? = some (AObj.row 5 [PV.agg [Enc.pv x.stack, Enc.pv x.start, p2, p3, p4]] 0) := by rw [k4 σ.length fun hj => by have := lt σ.length (by grind); omega]; exact y3
  have q2 := Own.frame q2 (σ' := σ4) fun j hj => k4 j (by grind)
  have q3 := Own.frame q3 (σ' := σ4) fun j hj => k4 j (by grind)
  have q4 := n4.own
  have ll : σ4.length = σ.length + 1 := by rw [l4, l3, l2, List.length_append]; rfl
  have tk : TkB (σ ++ [AObj.row 5 [PV.agg [Enc.pv x.stack, Enc.pv x.start, p2, p3, p4]] 0]) σ4 := ((t2.trans t3).trans t4)
  have gt : objsBel σ.length (σ4.take σ.length) = true := tk σ.length σ.length (by rw [List.take_left]; exact hg)
  have fr : ∀ {u : Nat}, u < σ.length → (σ4.take σ.length)[u]? = σ4[u]? := fun hu => by rw [List.getElem?_take]; simp [hu]
  have q2 := Own.frame q2 (σ' := σ4.take σ.length) fun j hj => fr (lt j (by grind))
  have q3 := Own.frame q3 (σ' := σ4.take σ.length) fun j hj => fr (lt j (by grind))
  have q4 := Own.frame q4 (σ' := σ4.take σ.length) fun j hj => fr (lt j (by grind))
  refine ⟨σ4.take σ.length, ?_, ⟨⟨[], _, [], _, i2, p2, i3, p3, i4, p4, rfl, rfl, ⟨rfl, rfl⟩, ⟨rfl, rfl⟩, q2, q3, q4⟩, h.nd, fun j hj => ?_⟩, ?_, fun j hj => ?_, ?_, ?_⟩
  · refine go_laws_markRewriter (by simp) ?_
    unfold Good at g4
    have kn2 := (own_one h2).2.2.2
    have kn3 := (own_one h3).2.2.2
    have kn4 := (own_one h4).2.2.2
    simp at e2 kn2 e3 kn3 e4 kn4
    simp [ac_laws_markRewriter, e2, kn2, y2, e3, kn3, y3, e4, kn4, y4, g4, ll, gt]
    try first | omega | (congr 4; omega)
  · rw [List.length_take, ll]; have := h.lt j hj; omega
  · rw [List.length_take, ll]; omega
  · simp only [List.mem_append, List.append_assoc] at hj
    by_cases hl : j < σ.length
    · rw [fr hl, k4 j (by grind), k3 j (by grind), k2 j (by grind), List.getElem?_append_left hl]
    · rw [List.getElem?_eq_none (by rw [List.length_take, ll]; omega), List.getElem?_eq_none (by omega)]
  · unfold Good; rw [List.length_take, ll, show min σ.length (σ.length + 1) = σ.length by omega]; exact gt
  · intro m l hm
    rw [List.take_take]
    refine tk m _ ?_
    rw [List.take_append_of_le_length (by omega)]
    by_cases hl : l ≤ σ.length
    · rw [show min l σ.length = l by omega]; exact hm
    · rw [show min l σ.length = σ.length by omega, List.take_length]; rwa [List.take_of_length_le (by omega)] at hm

theorem heldC_Rewriter : HeldC (α := GRewriter) fns i_laws_heldRewriter wRewriter mkRewriter := by
  intro σ ids p x k ho hk hk2
  obtain ⟨i0, p0, i1, p1, i2, p2, i3, p3, i4, p4, rfl, rfl, h0, h1, h2, h3, h4⟩ := ho
  simp only [wRewriter, Int.natCast_add] at hk2 ⊢
  have e2 := heldC_OutPushSS σ i2 p2 x.call (k) h2 (by first | omega | (dsimp only; omega)) (by first | omega | (dsimp only; omega))
  have e3 := heldC_OutMoveSSS σ i3 p3 x.ret (k + ((sumW (fun xs : List GOutPush => 3 * xs.length)) x.call : Nat)) h3 (by first | omega | (dsimp only; omega)) (by first | omega | (dsimp only; omega))
  have e4 := heldC_OutMoveSS σ i4 p4 x.inner (k + ((sumW (fun xs : List GOutPush => 3 * xs.length)) x.call : Nat) + ((sumW (sumW (fun xs : List GOutMove => 2 * xs.length))) x.ret : Nat)) h4 (by first | omega | (dsimp only; omega)) (by first | omega | (dsimp only; omega))
  refine go_laws_heldRewriter (by simp) ?_
  simp at e2 e3 e4
  simp [ac_laws_heldRewriter, mkRewriter, e2, e3, e4, show ¬ (k + ((sumW (fun xs : List GOutPush => 3 * xs.length)) x.call : Nat) < 0) by omega, show ¬ (k + ((sumW (fun xs : List GOutPush => 3 * xs.length)) x.call : Nat) + ((sumW (sumW (fun xs : List GOutMove => 2 * xs.length))) x.ret : Nat) < 0) by omega, show ¬ (k + ((sumW (fun xs : List GOutPush => 3 * xs.length)) x.call : Nat) + ((sumW (sumW (fun xs : List GOutMove => 2 * xs.length))) x.ret : Nat) + ((sumW (fun xs : List GOutMove => 2 * xs.length)) x.inner : Nat) < 0) by omega]
  try omega

end Go.Proofs.Ytegjfjckijmgcaa
