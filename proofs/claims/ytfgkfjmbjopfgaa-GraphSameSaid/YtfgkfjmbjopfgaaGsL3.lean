/-
  The plain law of layer 40: pairs that are met, round by round.
-/
import Derived.Test.YtfgkfjmbjopfgaaGsL2
set_option linter.unusedVariables false
set_option linter.unusedSimpArgs false
namespace Go.Abs
open Go
def Mt (bs : List Bool) (p : Nat) : Prop := bs[p]? = some true
/-- What holds in a round. -/
structure Rnd (a b : List Ev) (bs : List Bool) (turn : Nat) (more : Bool) : Prop where
  len : bs.length = a.length * b.length
  start : Mt bs 0
  sound : ∀ p, Mt bs p → Meets a b (p / b.length) (p % b.length)
  cnt : turn + 1 + more.toNat ≤ bs.count true
/-- What is behind a pair has been met. -/
def Clo (a b : List Ev) (bs : List Bool) (i k : Nat) : Prop := ∀ j n m o x y c, Beh a i (some (j, n)) → Beh b k (some (m, o)) → a[j]? = some x → b[m]? = some y → c < max x.next.length y.next.length → Mt bs (x.nx c * b.length + y.nx c)
theorem count_set {bs : List Bool} {q : Nat} (h : bs[q]? = some false) : (bs.set q true).count true = bs.count true + 1 := by
  induction bs generalizing q with
  | nil => simp at h
  | cons x l ih =>
    cases q with
    | zero => simp at h; subst h; simp
    | succ q => simp at h; rw [List.set_cons_succ, List.count_cons, List.count_cons, ih h]; omega
theorem Mt.set {bs : List Bool} {p q : Nat} (h : Mt bs p) : Mt (bs.set q true) p := by
  unfold Mt at h ⊢
  rw [List.getElem?_set]
  have := (List.getElem?_eq_some_iff.1 h).1
  split
  · rename_i e; subst e; rw [if_pos this]
  · exact h
theorem Mt.of_set {bs : List Bool} {p q : Nat} (h : Mt (bs.set q true) p) : Mt bs p ∨ p = q := by
  unfold Mt at h ⊢
  rw [List.getElem?_set] at h
  split at h
  · rename_i e; exact .inr e.symm
  · exact .inl h
theorem Rnd.set {a b : List Ev} {bs : List Bool} {turn : Nat} {more : Bool} (h : Rnd a b bs turn more) {q : Nat} (hq : bs[q]? = some false) (hm : Meets a b (q / b.length) (q % b.length)) : Rnd a b (bs.set q true) turn true := by
  refine ⟨by simp [h.len], h.start.set, fun p hp => ?_, ?_⟩
  · rcases hp.of_set with hp | rfl
    · exact h.sound p hp
    · exact hm
  · rw [count_set hq]
    have := h.cnt
    have e : true.toNat = 1 := rfl
    cases more
    · have e2 : false.toNat = 0 := rfl
      omega
    · omega
theorem pair_div {B j m : Nat} (hm : m < B) : (j * B + m) / B = j ∧ (j * B + m) % B = m := by
  have hB : 0 < B := by omega
  exact ⟨by rw [Nat.mul_comm, Nat.mul_add_div hB, Nat.div_eq_of_lt hm]; omega, by rw [Nat.mul_comm, Nat.mul_add_mod, Nat.mod_eq_of_lt hm]⟩
theorem Rnd.begin {a b : List Ev} (ha : right a = true) (hb : right b = true) : Rnd a b ((List.replicate (a.length * b.length) false).set 0 true) 0 false := by
  have h1 := right_pos ha
  have h2 := right_pos hb
  have h3 : 0 < a.length * b.length := Nat.mul_pos h1 h2
  refine ⟨by simp, ?_, fun p hp => ?_, ?_⟩
  · unfold Mt; rw [List.getElem?_set_self (by simpa using h3)]
  · rcases hp.of_set with hp | rfl
    · unfold Mt at hp; rw [List.getElem?_replicate] at hp; split at hp <;> cases hp
    · rw [Nat.zero_div, Nat.zero_mod]; exact .first
  · rw [count_set (by rw [List.getElem?_replicate, if_pos h3])]
    simp
theorem Rnd.goes {a b : List Ev} {bs : List Bool} {turn : Nat} {more : Bool} (h : Rnd a b bs turn more) (ha : right a = true) (hb : right b = true) (hc : ∀ p, p < bs.length → Mt bs p → Fits a b (p / b.length) (p % b.length) ∧ Clo a b bs (p / b.length) (p % b.length)) : Goes a b := by
  have key : ∀ i k, Meets a b i k → i < a.length ∧ k < b.length ∧ Mt bs (i * b.length + k) := by
    intro i k hm
    induction hm with
    | first => exact ⟨right_pos ha, right_pos hb, by simpa using h.start⟩
    | @next i k j m n o x y c hm h1 h2 hx hy hlt ih =>
      obtain ⟨ih1, ih2, ih3⟩ := ih
      obtain ⟨hf, hcl⟩ := hc _ (by rw [h.len]; exact pair_lt ih1 ih2) ih3
      obtain ⟨e1, e2⟩ := pair_div (j := i) ih2
      rw [e1, e2] at hf hcl
      obtain ⟨_, ho⟩ := Fits.some_some h1 h2 hx hy hf
      have rx := right_at ha hx
      have ry := right_at hb hy
      rcases Ev.both_next rx ry ho with ⟨q1, q2⟩ | ⟨q1, q2⟩
      · obtain ⟨k1, _, e1, l1⟩ := Ev.nx_at rx (c := c) q1
        obtain ⟨k2, _, e2, l2⟩ := Ev.nx_at ry (c := c) q2
        exact ⟨by omega, by omega, hcl j n m o x y c h1 h2 hx hy hlt⟩
      · omega
  refine ⟨ha, hb, fun i k hm => ?_⟩
  obtain ⟨h1, h2, h3⟩ := key i k hm
  have := (hc _ (by rw [h.len]; exact pair_lt h1 h2) h3).1
  obtain ⟨e1, e2⟩ := pair_div (j := i) h2
  rw [e1, e2] at this
  exact this
theorem Rnd.turns {a b : List Ev} {bs : List Bool} {turn : Nat} {more : Bool} (h : Rnd a b bs turn more) : turn < bs.length := by
  have := h.cnt
  have h2 : bs.count true ≤ bs.length := List.count_le_length
  omega
end Go.Abs
