/- Rewriters composed: plain law. -/
import Derived.Test.YtjfpmpbdbpgofaaRwSpec
import Derived.Test.YtjfpmpbdbpgofaaWord2
import Derived.Test.YtjfpmpbdbpgofaaIsStruct
set_option linter.unusedVariables false
set_option linter.unusedSimpArgs false
set_option maxRecDepth 100000
namespace Go.Proofs.Ytjfpmpbdbpgofaa
open Aw
/-! ### The stack's length -/
theorem stepR_depth {r : GRewriter} {s : RSt} {m : Mst} (h : s.2.1.length = m.cal.length) {ch : Int} (hc : 0 ≤ symIx ch) : (stepR r s ch).2.1.length = (mstep m ch).cal.length := by
  obtain ⟨q, stk, out⟩ := s
  simp only at h
  rcases symIx_cases ch with rfl | rfl | rfl | rfl | rfl | rfl | ⟨hh, _⟩
  · simp [stepR, mstep, symIx, isCallB, isRetB, h]
  · simp [stepR, mstep, symIx, isCallB, isRetB, h]
  · rcases List.eq_nil_or_concat stk with rfl | ⟨pre, x, rfl⟩
    · have : m.cal = [] := List.eq_nil_of_length_eq_zero (by simpa using h.symm)
      simp [stepR, mstep, symIx, isCallB, isInnB, isRetB, this]
    · rw [List.concat_eq_append] at *
      rcases List.eq_nil_or_concat m.cal with e | ⟨pre', x', e⟩
      · rw [e] at h; simp at h
      · rw [List.concat_eq_append] at e
        rw [e] at h
        simp at h
        simp [stepR, mstep, symIx, isCallB, isInnB, isRetB, e, h]
  · rcases List.eq_nil_or_concat stk with rfl | ⟨pre, x, rfl⟩
    · have : m.cal = [] := List.eq_nil_of_length_eq_zero (by simpa using h.symm)
      simp [stepR, mstep, symIx, isCallB, isInnB, isRetB, this]
    · rw [List.concat_eq_append] at *
      rcases List.eq_nil_or_concat m.cal with e | ⟨pre', x', e⟩
      · rw [e] at h; simp at h
      · rw [List.concat_eq_append] at e
        rw [e] at h
        simp at h
        simp [stepR, mstep, symIx, isCallB, isInnB, isRetB, e, h]
  · simp [stepR, mstep, symIx, isCallB, isInnB, isRetB, h]
  · simp [stepR, mstep, symIx, isCallB, isInnB, isRetB, h]
  · omega
theorem fold_depth {r : GRewriter} : ∀ (cs : List Int) (s : RSt) (m : Mst), s.2.1.length = m.cal.length → (∀ c ∈ cs, 0 ≤ symIx c) → (cs.foldl (stepR r) s).2.1.length = (cs.foldl mstep m).cal.length
  | [], _, _, h, _ => h
  | c :: cs, s, m, h, hc => fold_depth cs _ _ (stepR_depth h (hc c (List.mem_cons_self ..))) (fun x hx => hc x (List.mem_cons_of_mem _ hx))
theorem goF_depth (r : GRewriter) (q : Int) {w : ByteArray} (hw : symWR w) : (goF r (q, [], ⟨#[]⟩) w).2.1.length = (mmatch (wl w)).cal.length := fold_depth (wl w) _ _ rfl hw
/-! ### What a composed rewriter does -/
def cmPush (r : GRewriter) (x k : Nat) : GOutPush := (r.call.getD x []).getD k ⟨0, 0, ⟨#[]⟩⟩
def cmRet (r : GRewriter) (x k o : Nat) : GOutMove := ((r.ret.getD x []).getD k []).getD o ⟨0, ⟨#[]⟩⟩
def cmInn (r : GRewriter) (x k : Nat) : GOutMove := (r.inner.getD x []).getD k ⟨0, ⟨#[]⟩⟩
/-- A run of the second one over what the first one writes. -/
def cmG (s : GRewriter) (z : Nat) (stk : List Int) (w : ByteArray) : RSt := goF s (((z % s.call.length : Nat) : Int), stk, ⟨#[]⟩) w
def cmS (r s : GRewriter) (mark : Nat) : List Int := if mark < r.stack.toNat * s.stack.toNat then [((mark % s.stack.toNat : Nat) : Int)] else []
def cmC (r s : GRewriter) (z k : Nat) : GOutPush :=
  let p := cmPush r (z / s.call.length) k
  ⟨p.to * s.call.length + (cmG s z [] p.out).1, p.put * s.stack + (cmG s z [] p.out).2.1.headD 0, (cmG s z [] p.out).2.2⟩
def cmB (r s : GRewriter) (z k mark : Nat) : GOutMove :=
  let p := cmRet r (z / s.call.length) k (mark / s.stack.toNat)
  ⟨p.to * s.call.length + (cmG s z (cmS r s mark) p.out).1, (cmG s z (cmS r s mark) p.out).2.2⟩
def cmI (r s : GRewriter) (z k : Nat) : GOutMove :=
  let p := cmInn r (z / s.call.length) k
  ⟨p.to * s.call.length + (cmG s z [] p.out).1, (cmG s z [] p.out).2.2⟩
def bltRw (n S : Nat) (x1 : Int) (C : Nat → Nat → GOutPush) (B : Nat → Nat → Nat → GOutMove) (I : Nat → Nat → GOutMove) : GRewriter :=
  ⟨S, x1, (List.range n).map fun s => (List.range 2).map (C s), (List.range n).map fun s => (List.range 2).map fun k => (List.range (S + 1)).map (B s k), (List.range n).map fun s => (List.range 2).map (I s)⟩
def cmN (r s : GRewriter) : Nat := r.call.length * s.call.length
def cmM (r s : GRewriter) : Nat := r.stack.toNat * s.stack.toNat
def cmX (r s : GRewriter) : GRewriter := bltRw (cmN r s) (cmM r s) (r.start * s.call.length + s.start) (cmC r s) (cmB r s) (cmI r s)
/-- What both are, where they are valid and the first one is structural. -/
structure CmI (r s : GRewriter) : Prop where
  hr : okRw r = true
  hs : okRw s = true
  st : strRw r = true
theorem okPush_all {n st : Int} {p : GOutPush} (h : okPush n st p = true) : inR p.to 0 (n - 1) = true ∧ okOut p.out = true ∧ inR p.put 0 (st - 1) = true := by
  simp only [okPush, Bool.and_eq_true] at h; exact ⟨h.1.1, h.1.2, h.2⟩
theorem okMove_all {n : Int} {p : GOutMove} (h : okMove n p = true) : inR p.to 0 (n - 1) = true ∧ okOut p.out = true := by
  simp only [okMove, Bool.and_eq_true] at h; exact ⟨h.1, h.2⟩
theorem cmPush_ok {r : GRewriter} (hok : okRw r = true) {x k : Nat} (hx : x < r.call.length) (hk : k < 2) : okPush r.call.length r.stack (cmPush r x k) = true ∧ (∃ (h : x < r.call.length) (h2 : k < r.call[x].length), cmPush r x k = r.call[x][k]) := by
  obtain ⟨g1, g2, g3, g4, g5⟩ := okRw_len hok
  obtain ⟨p0, p1, q0, q1, i0, i1, e1, e2, e3, k1, k2, k3, k4, k5, k6⟩ := okRow_twoR (okRw_row hok hx (by omega) (by omega))
  have hl : k < r.call[x].length := by rw [e1]; simpa using hk
  have e : cmPush r x k = r.call[x][k] := by unfold cmPush; simp [List.getD_eq_getElem?_getD, hx, hl]
  refine ⟨?_, hx, hl, e⟩
  rw [e]
  simp only [e1]
  rcases (show k = 0 ∨ k = 1 by omega) with rfl | rfl
  · exact k1
  · exact k2
theorem cmInn_ok {r : GRewriter} (hok : okRw r = true) {x k : Nat} (hx : x < r.call.length) (hk : k < 2) : okMove r.call.length (cmInn r x k) = true ∧ (∃ (h : x < r.inner.length) (h2 : k < r.inner[x].length), cmInn r x k = r.inner[x][k]) := by
  obtain ⟨g1, g2, g3, g4, g5⟩ := okRw_len hok
  have hi : x < r.inner.length := by omega
  obtain ⟨p0, p1, q0, q1, i0, i1, e1, e2, e3, k1, k2, k3, k4, k5, k6⟩ := okRow_twoR (okRw_row hok hx (by omega) hi)
  have hl : k < r.inner[x].length := by rw [e3]; simpa using hk
  have e : cmInn r x k = r.inner[x][k] := by unfold cmInn; simp [List.getD_eq_getElem?_getD, hi, hl]
  refine ⟨?_, hi, hl, e⟩
  rw [e]
  simp only [e3]
  rcases (show k = 0 ∨ k = 1 by omega) with rfl | rfl
  · exact k5
  · exact k6
theorem cmRet_ok {r : GRewriter} (hok : okRw r = true) {x k o : Nat} (hx : x < r.call.length) (hk : k < 2) (ho : (o : Int) ≤ r.stack) : okMove r.call.length (cmRet r x k o) = true ∧ (∃ (h : x < r.ret.length) (h2 : k < r.ret[x].length) (h3 : o < r.ret[x][k].length), cmRet r x k o = r.ret[x][k][o]) := by
  obtain ⟨g1, g2, g3, g4, g5⟩ := okRw_len hok
  have hr : x < r.ret.length := by omega
  obtain ⟨p0, p1, q0, q1, i0, i1, e1, e2, e3, k1, k2, k3, k4, k5, k6⟩ := okRow_twoR (okRw_row hok hx hr (by omega))
  have hl : k < r.ret[x].length := by rw [e2]; simpa using hk
  have key : ∀ (q : List GOutMove), okMoves r.call.length (r.stack + 1) q = true → r.ret[x][k] = q → okMove r.call.length (cmRet r x k o) = true ∧ (∃ (h : x < r.ret.length) (h2 : k < r.ret[x].length) (h3 : o < r.ret[x][k].length), cmRet r x k o = r.ret[x][k][o]) := by
    intro q hq he
    simp only [okMoves, Bool.and_eq_true, decide_eq_true_eq, List.all_eq_true] at hq
    have h3 : o < r.ret[x][k].length := by rw [he]; omega
    have e : cmRet r x k o = r.ret[x][k][o] := by unfold cmRet; simp [List.getD_eq_getElem?_getD, hr, hl, h3]
    refine ⟨?_, hr, hl, h3, e⟩
    rw [e]
    exact hq.2 _ (by rw [← he]; exact List.getElem_mem h3)
  rcases (show k = 0 ∨ k = 1 by omega) with rfl | rfl
  · exact key q0 k3 (by simp only [e2]; rfl)
  · exact key q1 k4 (by simp only [e2]; rfl)
theorem cmPush_pend {r : GRewriter} (hok : okRw r = true) (hs : strRw r = true) {x k : Nat} (hx : x < r.call.length) (hk : k < 2) : (mmatch (wl (cmPush r x k).out)).cal.length = 1 := by
  obtain ⟨-, h, hl, e⟩ := cmPush_ok hok hx hk
  unfold strRw at hs
  have hs := List.all_eq_true.1 hs x (List.mem_range.2 hx)
  simp only [strRow, Bool.and_eq_true, List.all_eq_true] at hs
  have := hs.1.1 (r.call[x][k]) (by rw [List.getD_eq_getElem?_getD, List.getElem?_eq_getElem h]; exact List.getElem_mem hl)
  rw [e]
  simp only [pend, Bool.and_eq_true, decide_eq_true_eq] at this
  omega
end Go.Proofs.Ytjfpmpbdbpgofaa
