/- Choices: what is at a state, and what is known of words. -/
import Derived.Test.YtipmgemnjcjobaaGreatBitImg
import Derived.Test.YtipmgemnjcjobaaGreatWord2
set_option linter.unusedVariables false
set_option linter.unusedSimpArgs false
set_option maxRecDepth 100000
namespace Go.Proofs.YtipmgemnjcjobaaGreat
open Aw
theorem okRis_mem {n : Int} {l : List Int} (h : okRis n l = true) : ∀ x ∈ l, 0 ≤ x ∧ x < n := by
  intro x hx
  obtain ⟨i, hi, rfl⟩ := List.mem_iff_getElem.1 hx
  have := (List.all_eq_true.1 h) i (List.mem_range.2 hi)
  unfold risAt at this
  rw [getD_at' hi] at this
  simp only [inR, Bool.and_eq_true, decide_eq_true_eq] at this
  omega
theorem okPus_mem {n st : Int} {l : List GPush} (h : okPus n st l = true) : ∀ p ∈ l, (0 ≤ p.to ∧ p.to < n) ∧ 0 ≤ p.put ∧ p.put < st := by
  intro x hx
  obtain ⟨i, hi, rfl⟩ := List.mem_iff_getElem.1 hx
  have := (List.all_eq_true.1 h) i (List.mem_range.2 hi)
  unfold puAt at this
  rw [getD_at' hi] at this
  simp only [inR, Bool.and_eq_true, decide_eq_true_eq] at this
  omega
def cA (m : GChoices) (s k : Nat) : List GPush := (m.call.getD s []).getD k []
def iA (m : GChoices) (s k : Nat) : List Int := (m.inner.getD s []).getD k []
def rA (m : GChoices) (s k : Nat) : List (List Int) := (m.ret.getD s []).getD k []
def rX (m : GChoices) (s k x : Nat) : List Int := (rA m s k).getD x []
/-- What is at a state, for a kind of symbols. -/
structure ChAt (m : GChoices) (S s k : Nat) : Prop where
  h1 : s < m.call.length
  h2 : s < m.ret.length
  h3 : s < m.inner.length
  h4 : s < m.accept.length
  k1 : k < (m.call[s]'h1).length
  k2 : k < (m.ret[s]'h2).length
  k3 : k < (m.inner[s]'h3).length
  e1 : (m.call[s]'h1)[k]'k1 = cA m s k
  e2 : (m.ret[s]'h2)[k]'k2 = rA m s k
  e3 : (m.inner[s]'h3)[k]'k3 = iA m s k
  c : ∀ p ∈ cA m s k, (0 ≤ p.to ∧ p.to < m.accept.length) ∧ 0 ≤ p.put ∧ p.put < S
  i : StN m.accept.length (iA m s k)
  rl : (rA m s k).length = S + 1
  r : ∀ l ∈ rA m s k, StN m.accept.length l
theorem okCh_n {m : GChoices} (hok : okCh m = true) : 1 ≤ m.accept.length ∧ m.accept.length ≤ 5 ∧ StN m.accept.length m.starts ∧ ∃ S : Nat, m.stack = S ∧ 1 ≤ S ∧ S ≤ 4 := by
  unfold okCh at hok
  simp only [inR, Bool.and_eq_true, decide_eq_true_eq] at hok
  obtain ⟨⟨⟨⟨⟨⟨h1, h2⟩, h3⟩, -⟩, -⟩, -⟩, -⟩ := hok
  refine ⟨by omega, by omega, okRis_mem h3, m.stack.toNat, by omega, by omega, by omega⟩
theorem ch_at {m : GChoices} (hok : okCh m = true) {S s k : Nat} (hS : m.stack = S) (hs : s < m.accept.length) (hk : k < 2) : ChAt m S s k := by
  unfold okCh at hok
  simp only [inR, Bool.and_eq_true, decide_eq_true_eq] at hok
  obtain ⟨⟨⟨⟨⟨⟨-, -⟩, -⟩, l1⟩, l2⟩, l3⟩, hr⟩ := hok
  have hr := (List.all_eq_true.1 hr) s (List.mem_range.2 hs)
  unfold chS chRow at hr
  simp only [Bool.and_eq_true, decide_eq_true_eq] at hr
  obtain ⟨⟨⟨q1, q2⟩, q3⟩, hr⟩ := hr
  have hr := (List.all_eq_true.1 hr) k (List.mem_range.2 hk)
  have h1 : s < m.call.length := by omega
  have h2 : s < m.ret.length := by omega
  have h3 : s < m.inner.length := by omega
  have g1 := getD_at' (d := ([] : List (List GPush))) h1
  have g2 := getD_at' (d := ([] : List (List (List Int)))) h2
  have g3 := getD_at' (d := ([] : List (List Int))) h3
  rw [g1] at q1; rw [g2] at q2; rw [g3] at q3
  have hr' : chK m.accept.length m.stack (cA m s k) (rA m s k) (iA m s k) = true := hr
  unfold chK at hr'
  simp only [Bool.and_eq_true, decide_eq_true_eq] at hr'
  obtain ⟨⟨⟨a1, a2⟩, a3⟩, a4⟩ := hr'
  have b1 := okPus_mem a1
  have b2 := okRis_mem a2
  refine ⟨h1, h2, h3, hs, by omega, by omega, by omega, ?_, ?_, ?_, fun p hp => ?_, b2, by omega, fun l hl => okRis_mem (List.all_eq_true.1 a4 l hl)⟩
  · unfold cA; rw [g1, getD_at' (by omega)]
  · unfold rA; rw [g2, getD_at' (by omega)]
  · unfold iA; rw [g3, getD_at' (by omega)]
  · have := b1 p hp; omega
/-- What is known of a word: for each state where what is behind the last open call leads from it, and the states in which all of it can end. -/
structure Vw where
  p : Nat → Nat
  e : Nat
def Vw.u (v : Vw) : PV := .agg [u64 (v.p 0), u64 (v.p 1), u64 (v.p 2), u64 (v.p 3), u64 (v.p 4), u64 v.e]
def Vw.i (v : Vw) : PV := .agg [i64 (v.p 0), i64 (v.p 1), i64 (v.p 2), i64 (v.p 3), i64 (v.p 4), i64 v.e]
/-- The pair of a state with itself, if it is one. -/
def smN (n i : Nat) : Nat := if i < n then 2 ^ i else 0
def callF (m : GChoices) (k s : Nat) : Nat := bitsL ((cA m s k).map (·.to))
def innF (m : GChoices) (k s : Nat) : Nat := bitsL (iA m s k)
def retF (m : GChoices) (k x s : Nat) : Nat := bitsL (rX m s k x)
def freF (m : GChoices) (k s : Nat) : Nat := retF m k m.stack.toNat s
def bakF (m : GChoices) (v : Vw) (c k q : Nat) : Nat := (cA m q c).foldl (fun o p => o ||| allN (v.p p.to.toNat) (retF m k p.put.toNat)) 0
def Vw.call (m : GChoices) (v : Vw) (k : Nat) : Vw := ⟨smN m.accept.length, allN v.e (callF m k)⟩
def Vw.inn (m : GChoices) (v : Vw) (k : Nat) : Vw := ⟨fun i => allN (v.p i) (innF m k), allN v.e (innF m k)⟩
def Vw.fre (m : GChoices) (v : Vw) (k : Nat) : Vw := ⟨smN m.accept.length, allN v.e (freF m k)⟩
def Vw.bak (m : GChoices) (b v : Vw) (c k : Nat) : Vw := ⟨fun i => allN (b.p i) (bakF m v c k), allN b.e (bakF m v c k)⟩
def startV (m : GChoices) : Vw := ⟨smN m.accept.length, bitsL m.starts⟩
structure okV (n : Nat) (v : Vw) : Prop where
  p : ∀ i, v.p i < 2 ^ n
  e : v.e < 2 ^ n
theorem smN_lt (n i : Nat) : smN n i < 2 ^ n := by
  unfold smN; split
  · exact Nat.pow_lt_pow_right (by omega) (by assumption)
  · exact Nat.pow_pos (by omega)
section
variable {m : GChoices} (hok : okCh m = true)
include hok
theorem callF_lt {k : Nat} (hk : k < 2) : ∀ s, s < m.accept.length → callF m k s < 2 ^ m.accept.length := by
  intro s hs
  obtain ⟨-, -, -, S, hS, -, -⟩ := okCh_n hok
  refine bitsL_ltN (Nat.le_refl _) fun x hx => ?_
  obtain ⟨p, hp, rfl⟩ := List.mem_map.1 hx
  exact ((ch_at hok hS hs hk).c p hp).1
theorem innF_lt {k : Nat} (hk : k < 2) : ∀ s, s < m.accept.length → innF m k s < 2 ^ m.accept.length := by
  intro s hs
  obtain ⟨-, -, -, S, hS, -, -⟩ := okCh_n hok
  exact bitsL_ltN (Nat.le_refl _) (ch_at hok hS hs hk).i
theorem rX_mem {S : Nat} (hS : m.stack = S) {s k x : Nat} (hs : s < m.accept.length) (hk : k < 2) (hx : x ≤ S) : rX m s k x ∈ rA m s k := by
  have := (ch_at hok hS hs hk).rl
  unfold rX
  rw [getD_at' (by omega)]
  exact List.getElem_mem _
theorem retF_lt {S : Nat} (hS : m.stack = S) {k x : Nat} (hk : k < 2) (hx : x ≤ S) : ∀ s, s < m.accept.length → retF m k x s < 2 ^ m.accept.length := by
  intro s hs
  exact bitsL_ltN (Nat.le_refl _) ((ch_at hok hS hs hk).r _ (rX_mem hok hS hs hk hx))
theorem bakF_lt {v : Vw} (hv : okV m.accept.length v) {c k : Nat} (hc : c < 2) (hk : k < 2) : ∀ s, s < m.accept.length → bakF m v c k s < 2 ^ m.accept.length := by
  intro s hs
  obtain ⟨-, -, -, S, hS, -, -⟩ := okCh_n hok
  have h := (ch_at hok hS hs hc).c
  have key : ∀ (l : List GPush) (o : Nat), (∀ p ∈ l, (0 ≤ p.to ∧ p.to < m.accept.length) ∧ 0 ≤ p.put ∧ p.put < S) → o < 2 ^ m.accept.length → l.foldl (fun o p => o ||| allN (v.p p.to.toNat) (retF m k p.put.toNat)) o < 2 ^ m.accept.length := by
    intro l
    induction l with
    | nil => intro o _ h; exact h
    | cons p l ih =>
      intro o hl ho
      have hp := hl p (List.mem_cons_self ..)
      exact ih _ (fun y hy => hl y (List.mem_cons_of_mem _ hy)) (Nat.or_lt_two_pow ho (allN_lt (hv.p _) (retF_lt hok hS hk (by omega))))
  exact key _ 0 h (Nat.pow_pos (by omega))
theorem startV_ok : okV m.accept.length (startV m) := ⟨fun i => smN_lt _ i, bitsL_ltN (Nat.le_refl _) (okCh_n hok).2.2.1⟩
theorem Vw.call_ok {v : Vw} (hv : okV m.accept.length v) {k : Nat} (hk : k < 2) : okV m.accept.length (v.call m k) := ⟨fun i => smN_lt _ i, allN_lt hv.e (callF_lt hok hk)⟩
theorem Vw.inn_ok {v : Vw} (hv : okV m.accept.length v) {k : Nat} (hk : k < 2) : okV m.accept.length (v.inn m k) := ⟨fun i => allN_lt (hv.p i) (innF_lt hok hk), allN_lt hv.e (innF_lt hok hk)⟩
theorem Vw.fre_ok {v : Vw} (hv : okV m.accept.length v) {k : Nat} (hk : k < 2) : okV m.accept.length (v.fre m k) := by
  obtain ⟨-, -, -, S, hS, -, -⟩ := okCh_n hok
  exact ⟨fun i => smN_lt _ i, allN_lt hv.e (retF_lt hok hS hk (by omega))⟩
theorem Vw.bak_ok {b v : Vw} (hb : okV m.accept.length b) (hv : okV m.accept.length v) {c k : Nat} (hc : c < 2) (hk : k < 2) : okV m.accept.length (b.bak m v c k) :=
  ⟨fun i => allN_lt (hb.p i) (bakF_lt hok hv hc hk), allN_lt hb.e (bakF_lt hok hv hc hk)⟩
end
/-! ### Words -/
abbrev KSt := Vw × List (Vw × Nat)
/-- Where a symbol leads. -/
def stepK (m : GChoices) (s : KSt) (ch : Int) : KSt :=
  let k := (symIx ch).toNat % 2
  if isCallB ch = true then (s.1.call m k, s.2 ++ [(s.1, k)])
  else if isInnB ch = true then (s.1.inn m k, s.2)
  else match s.2.getLast? with
    | some q => (q.1.bak m s.1 q.2 k, s.2.dropLast)
    | none => (s.1.fre m k, s.2)
structure okK (m : GChoices) (L : Nat) (s : KSt) : Prop where
  v : okV m.accept.length s.1
  stk : ∀ q ∈ s.2, okV m.accept.length q.1 ∧ q.2 < 2
  ln : s.2.length ≤ L
theorem stepK_ok {m : GChoices} (hok : okCh m = true) {L : Nat} {s : KSt} (h : okK m L s) (ch : Int) : okK m (L + 1) (stepK m s ch) := by
  have hk : (symIx ch).toNat % 2 < 2 := Nat.mod_lt _ (by omega)
  have hl := h.ln
  unfold stepK
  generalize (symIx ch).toNat % 2 = k at *
  simp only
  split
  · refine ⟨Vw.call_ok hok h.v hk, fun q hq => ?_, by simp; omega⟩
    rcases List.mem_append.1 hq with hq | hq
    · exact h.stk q hq
    · simp at hq; subst hq; exact ⟨h.v, hk⟩
  · split
    · exact ⟨Vw.inn_ok hok h.v hk, h.stk, by simp only; omega⟩
    · split
      · rename_i q hq
        have hm := List.mem_of_getLast? hq
        have := h.stk q hm
        exact ⟨Vw.bak_ok hok this.1 h.v this.2 hk, fun r hr => h.stk r ((List.dropLast_sublist _).subset hr), by simp; omega⟩
      · exact ⟨Vw.fre_ok hok h.v hk, h.stk, by simp only; omega⟩
/-- What is known of a word. -/
def goK (m : GChoices) (s : KSt) (cs : List Int) : KSt := cs.foldl (stepK m) s
def knK (m : GChoices) (w : ByteArray) : Vw := (goK m (startV m, []) (wl w)).1
theorem okK_start {m : GChoices} (hok : okCh m = true) : okK m 0 (startV m, []) := ⟨startV_ok hok, by simp, by simp⟩
theorem goK_ok {m : GChoices} (hok : okCh m = true) : ∀ (cs : List Int) (L : Nat) (s : KSt), okK m L s → okK m (L + cs.length) (goK m s cs)
  | [], L, s, h => h
  | x :: cs, L, s, h => by
    have := goK_ok hok cs (L + 1) (stepK m s x) (stepK_ok hok h x)
    rw [List.length_cons, show L + (cs.length + 1) = L + 1 + cs.length by omega]
    exact this
theorem knK_ok {m : GChoices} (hok : okCh m = true) (w : ByteArray) : okV m.accept.length (knK m w) := (goK_ok hok _ _ _ (okK_start hok)).v
end Go.Proofs.YtipmgemnjcjobaaGreat
