/- The law FnExactRewriteOn returns true for all arguments, which read behind the call as before. It has no conditions: it is run over typed data. -/
import Derived.Test.YtjfpmpbdbpgofaaLwRewriteOn
import Derived.Test.YtjfpmpbdbpgofaaOpnD
import Derived.Test.YtjfpmpbdbpgofaaRows
import Derived.WalkKit
import Derived.ProofKit
import Derived.OpenShut
import Derived.ShutString
import Derived.ChangeOld
import Derived.Below
import Derived.SizedLaws
import Derived.Carry
set_option linter.unusedVariables false
namespace Go.Proofs.Ytjfpmpbdbpgofaa.fnExactRewriteOn
open Go.ChangeShapes Go.WideShapes Go.ChangeAt Go.RowKit Aw
set_option maxRecDepth 100000

theorem own : ownKnob Try.prog.godebug = none := by kernel_rfl
theorem laidOut : laidOutB Try.prog = true := by kernel_rfl
theorem trodAll_cons_mk {H : Type} {enc : TypeId × Value → H} {P : Go.Program} {w : World} {base : Nat} {spare : Nat → Bool} {held : Bool} {t : TypeId} {ts : List TypeId} {v : Value} {vs : List Value} {d : DataW H} {ds : List (DataW H)} {p q : List MemPlace}
    (h : DataW.Trod enc P w base spare held t v d p) (k : DataW.TrodAll enc P w base spare held ts vs ds q) : DataW.TrodAll enc P w base spare held (t :: ts) (v :: vs) (d :: ds) (p ++ q) := ⟨p, q, h, k, rfl⟩

theorem lifted (os : Os) (started : os.Started) (H : Type) (enc : TypeId × Value → H) :
    ReturnsInHanded {} Try.checked os 6 .any (Rows.fnExactRewriteOnSpec.pre6 enc Try.prog Try.f6 Rows.fnExactRewriteOnRow.domain false) (Rows.fnExactRewriteOnSpec.post enc Try.prog Try.f6 false true false false) := by
  refine returnsInHanded_of_change_sized (C := Try.checked) own started (by kernel_rfl) Try.func6
    (ChangeSpec.witness6 (enc := enc) (C := Try.checked) false ⟨#[], #[.agg #[.int .i64 0, .int .i64 0, .slice none 0 0, .slice none 0 0, .slice none 0 0], .int .i64 0, .slice none 0 0, .string ByteArray.empty], []⟩ 8 (by kernel_rfl) (by kernel_rfl) (by kernel_rfl) (by kernel_rfl)) ?_
  intro W base args ds gs before hval0 hW hcnd hsz0 _
  have hval : ∀ (j : Nat) t v, Try.f6.params[j]? = some t → args[j]? = some v → Value.okWide Try.prog W .any base t v := hval0
  have hW' := hW
  obtain ⟨p, q, hA0, hV, rfl, hfz, hnd⟩ := hW
  have hA : DataW.TrodAll enc Try.prog W 0 (fun _ => true) true Try.f6.params.toList args.toList ds p := hA0
  rw [Try.params6] at hA hval
  obtain ⟨v0, vs0, d0, ds0, p0, q0, hargs, rfl, rfl, h0, r0⟩ := trodAll_cons hA
  obtain ⟨v1, vs1, d1, ds1, p1, q1, rfl, rfl, rfl, h1, r1⟩ := trodAll_cons r0
  obtain ⟨v2, vs2, d2, ds2, p2, q2, rfl, rfl, rfl, h2, r2⟩ := trodAll_cons r1
  obtain ⟨v3, vs3, d3, ds3, p3, q3, rfl, rfl, rfl, h3, r3⟩ := trodAll_cons r2
  obtain ⟨rfl, rfl, rfl⟩ := trodAll_nil r3
  obtain rfl : args = #[v0, v1, v2, v3] := by cases args; simp_all
  obtain ⟨rfl, rfl⟩ := trodVars_none hV
  have k0 := h0
  have lt0 : ∀ x ∈ p0, x.block < W.heap.size := by obtain ⟨m, hm⟩ := k0; exact DataW.trod_lt m _ _ _ hm
  obtain ⟨a0, z0, y0⟩ := opn_val opn_Rewriter h0
  have g0 : ∃ cs, v0 = .agg cs := by
    have := (hval 0 77 v0 rfl rfl)
    unfold Value.okWide at this
    rw [Try.underlying77] at this
    obtain ⟨cs, e, _⟩ := this
    exact ⟨cs, e⟩
  have x0 : R ⟨[], [], W, []⟩ a0.v v0 := by
    obtain ⟨cs, rfl⟩ := g0
    exact R_agg.2 ⟨cs.toList, by simp, z0⟩
  have k1 := h1
  have lt1 : ∀ x ∈ p1, x.block < W.heap.size := by obtain ⟨m, hm⟩ := k1; exact DataW.trod_lt m _ _ _ hm
  obtain ⟨a1, z1, y1⟩ := opn_val opn_Int64 h1
  have g1 : v1.cells = #[v1] := by
    obtain ⟨a, rfl, _⟩ := open_int Try.underlying2 (hval 1 2 v1 rfl rfl) k1
    rfl
  have x1 : R ⟨[], [], W, []⟩ (i64 a1) v1 := by
    rw [g1] at z1
    exact Rs.head z1
  have k2 := h2
  have lt2 : ∀ x ∈ p2, x.block < W.heap.size := by obtain ⟨m, hm⟩ := k2; exact DataW.trod_lt m _ _ _ hm
  obtain ⟨a2, z2, y2⟩ := opn_val opn_Int64S h2
  have g2 : v2.cells = #[v2] := by
    obtain ⟨a, l, c, rfl⟩ := okWide_slice Try.underlying32 (hval 2 32 v2 rfl rfl)
    rfl
  have x2 : R ⟨[], [], W, []⟩ (lst 1 a2) v2 := by
    rw [g2] at z2
    exact Rs.head z2
  have k3 := h3
  have lt3 : ∀ x ∈ p3, x.block < W.heap.size := by obtain ⟨m, hm⟩ := k3; exact DataW.trod_lt m _ _ _ hm
  obtain ⟨a3, z3, y3⟩ := opn_val opn_String h3
  have g3 : v3.cells = #[v3] := by
    obtain ⟨a, rfl, _⟩ := Go.ChangeMaps.open_string Try.underlying9 (hval 3 9 v3 rfl rfl) k3
    rfl
  have x3 : R ⟨[], [], W, []⟩ (str a3) v3 := by
    rw [g3] at z3
    exact Rs.head z3
  clear hA0 hval0 hsz0
  have run := calls_of_gets (ev_sound (by kernel_rfl) fnsOk (ev_FnExactRewriteOn a0 a1 a2 a3 y0 y1 y2 y3)) (Rs.cons x0 (Rs.cons x1 (Rs.cons x2 (Rs.cons x3 (Rs.nil _)))))
  refine run.mono fun e W' ⟨he, bel⟩ => ?_
  subst he
  exact ⟨_, rfl, _, _, _, [], _, [], hW', trodAll_mk1 (shut_bool Try.underlying4 _), (trodAll_cons_mk (Below.trod laidOut (by kernel_rfl) (of_decide_eq_true (by kernel_rfl)) k0 bel lt0) (trodAll_cons_mk (Below.trod laidOut (by kernel_rfl) (of_decide_eq_true (by kernel_rfl)) k1 bel lt1) (trodAll_cons_mk (Below.trod laidOut (by kernel_rfl) (of_decide_eq_true (by kernel_rfl)) k2 bel lt2) (trodAll_cons_mk (Below.trod laidOut (by kernel_rfl) (of_decide_eq_true (by kernel_rfl)) k3 bel lt3) trodAll_mk0)))), rfl, bel.frame _, fun h => by cases h⟩

end Go.Proofs.Ytjfpmpbdbpgofaa.fnExactRewriteOn
