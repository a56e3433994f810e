/- Unions over states. -/
import Derived.Test.YtipmgemnjcjobaaGreatBitSts
set_option linter.unusedVariables false
set_option linter.unusedSimpArgs false
set_option maxRecDepth 100000
namespace Go.Proofs.YtipmgemnjcjobaaGreat
open Aw
theorem stF_mem {b n : Nat} (hb : b < 2 ^ n) : ∀ (d k : Nat) (x : Int), x ∈ stF b k d → 0 ≤ x ∧ x < n := by
  intro d
  induction d with
  | zero => intro k x h; simp [stF] at h
  | succ d ih =>
    intro k x h
    unfold stF at h
    split at h
    · simp at h
    · rename_i hq
      have hk : k < n := by
        rcases Nat.lt_or_ge k n with h | h
        · exact h
        · exfalso; apply hq
          have : 2 ^ n ≤ 2 ^ k := Nat.pow_le_pow_right (by omega) h
          exact Nat.div_eq_of_lt (by omega)
      rcases List.mem_append.1 h with h | h
      · split at h
        · simp at h; omega
        · simp at h
      · exact ih _ _ h
theorem stN_mem {b n : Nat} (hb : b < 2 ^ n) {x : Int} (h : x ∈ stN b) : 0 ≤ x ∧ x < n := stF_mem hb 6 0 x h
theorem stN_len (b : Nat) : (stN b).length ≤ 6 := by
  have key : ∀ d k, (stF b k d).length ≤ d := by
    intro d
    induction d with
    | zero => intro k; simp [stF]
    | succ d ih => intro k; unfold stF; split; simp; have := ih (k + 1); split <;> simp <;> omega
  exact key 6 0
/-- Numbers below n. -/
def StN (n : Nat) (l : List Int) : Prop := ∀ x ∈ l, 0 ≤ x ∧ x < n
theorem StN.sts {n : Nat} {l : List Int} (h : StN n l) (hn : n ≤ 5) : Sts l := fun x hx => by have := h x hx; omega
theorem StN.take {n : Nat} {l : List Int} (h : StN n l) (k : Nat) : StN n (l.take k) := fun x hx => h x (List.mem_of_mem_take hx)
/-- The union of what belongs to the states of a set. -/
def allN (b : Nat) (to : Nat → Nat) : Nat := (stN b).foldl (fun o s => o ||| to s.toNat) 0
def orL (to : Nat → Nat) (l : List Int) : Nat := l.foldl (fun o s => o ||| to s.toNat) 0
theorem orL_lt {to : Nat → Nat} {n N : Nat} (ht : ∀ s, s < n → to s < 2 ^ N) {l : List Int} (h : StN n l) : orL to l < 2 ^ N := by
  have key : ∀ (l : List Int) (o : Nat), StN n l → o < 2 ^ N → l.foldl (fun o s => o ||| to s.toNat) o < 2 ^ N := by
    intro l
    induction l with
    | nil => intro o _ h; exact h
    | cons x l ih =>
      intro o hl ho
      have hx := hl x (List.mem_cons_self ..)
      exact ih _ (fun y hy => hl y (List.mem_cons_of_mem _ hy)) (Nat.or_lt_two_pow ho (ht _ (by omega)))
  exact key l 0 h (Nat.pow_pos (by omega))
theorem bitsL_ltN {n N : Nat} (hn : n ≤ N) {l : List Int} (h : StN n l) : bitsL l < 2 ^ N :=
  orL_lt (to := fun s => 2 ^ s) (n := n) (fun s hs => Nat.pow_lt_pow_right (by omega) (by omega)) h
theorem orL_take {to : Nat → Nat} {l : List Int} {k : Nat} (h : k < l.length) : orL to (l.take (k + 1)) = orL to (l.take k) ||| to (l[k]).toNat := by
  rw [List.take_add_one, List.getElem?_eq_getElem h]
  unfold orL
  rw [List.foldl_append]; rfl
theorem allN_lt {b n N : Nat} (hb : b < 2 ^ n) {to : Nat → Nat} (ht : ∀ s, s < n → to s < 2 ^ N) : allN b to < 2 ^ N := orL_lt ht fun x hx => stN_mem hb hx
theorem allN_congr {b n : Nat} (hb : b < 2 ^ n) {to to' : Nat → Nat} (h : ∀ s, s < n → to s = to' s) : allN b to = allN b to' := by
  have key : ∀ (l : List Int) (o : Nat), StN n l → l.foldl (fun o s => o ||| to s.toNat) o = l.foldl (fun o s => o ||| to' s.toNat) o := by
    intro l
    induction l with
    | nil => intro o _; rfl
    | cons x l ih =>
      intro o hl
      have hx := hl x (List.mem_cons_self ..)
      rw [List.foldl_cons, List.foldl_cons, h _ (by omega)]
      exact ih _ fun y hy => hl y (List.mem_cons_of_mem _ hy)
  exact key _ 0 fun x hx => stN_mem hb hx
theorem pow32 {x n : Nat} (hn : n ≤ 5) (h : x < 2 ^ n) : x < 32 := Nat.lt_of_lt_of_le h (Nat.pow_le_pow_right (n := 2) (by omega) hn)
set_option maxHeartbeats 4000000 in
theorem ev_impl_all {b n : Nat} (hn : n ≤ 5) (hb : b < 2 ^ n) (f : PV) (hfb : f.bel 0 = true) (to : Nat → Nat) (ht : ∀ s, s < n → to s < 32) (hf : ∀ σ s, s < n → callV fns (ev fns) f [i64 (s : Nat)] σ = some (u64 (to s), σ)) : ev fns i_impl_all [u64 b, f] [] = some (u64 (allN b to), []) := by
  have hs := ev_impl_states (pow32 hn hb)
  have hm : StN n (stN b) := fun x hx => stN_mem hb hx
  have hlen := stN_len b
  unfold allN
  generalize stN b = l at *
  have key := fun ks => loop_known (F := fun k (s : Unit) => rE fns fa_impl_all 0 (.code lo_impl_all_0 :: .inBlock 0 :: ks) [(11, i64 (k : Nat)), (10, i64 l.length), (9, .own 0 0 0 l.length), (5, u64 (orL to (l.take k))), (1, f)] [.row 1 (l.map Enc.pv) 0]) (n := l.length) (fun _ _ => True)
    (fun k s hk _ => ⟨(), by
      have hx := hm l[k] (List.getElem_mem hk)
      obtain ⟨y, hy⟩ : ∃ y : Nat, l[k] = y := ⟨(l[k]).toNat, by omega⟩
      have hy5 : y < n := by omega
      have hw := wrap_i64 (n := k + 1) (by omega)
      have p1 := ht y hy5
      have b1 : orL to (l.take k) < 32 := orL_lt (N := 5) ht (hm.take k)
      have o2 := or_lt b1 p1
      have hc := fun σ => hf σ y hy5
      rw [l_impl_all_0, orL_take hk, hy]
      have ty : ((y : Nat) : Int).toNat = y := by omega
      rw [ty]
      have w2 := wrap_u64 (n := ((orL to (l.take k) ||| to y : Nat) : Int)) (by omega)
      simp at hc
      simp [-callN, lb_impl_all_0, hk, hy, hc, m_u b1, m_u p1, w2, hw]
      done, trivial⟩) (s := ()) trivial
  have e0 : orL to (l.take 0) = 0 := rfl
  have e1 : l.take l.length = l := List.take_length
  have e2 : ∀ ks, rE fns fa_impl_all 0 (.code lo_impl_all_0 :: .inBlock 0 :: ks) [(11, i64 (l.length : Nat)), (10, i64 l.length), (9, .own 0 0 0 l.length), (5, u64 (orL to l)), (1, f)] [.row 1 (l.map Enc.pv) 0] = rE fns fa_impl_all 0 ks [(5, u64 (orL to l))] [.row 1 (l.map Enc.pv) 0] := fun ks => by
    rw [l_impl_all_0]
    simp [lb_impl_all_0]
  have k2 := fun ks => let ⟨_, h, _⟩ := key ks; h
  simp only [e0, e1, e2] at k2
  refine go_impl_all (by simp) ?_
  simp at k2 hs
  simp [ac_impl_all, hs, k2, orL]
  done
end Go.Proofs.YtipmgemnjcjobaaGreat
