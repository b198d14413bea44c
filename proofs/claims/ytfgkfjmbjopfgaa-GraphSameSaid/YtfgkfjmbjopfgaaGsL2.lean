/-
  The plain law of layer 40: how pairs are met, one behind the other.
-/
import Derived.Test.YtfgkfjmbjopfgaaGsL1
set_option linter.unusedVariables false
set_option linter.unusedSimpArgs false
namespace Go.Abs
open Go
theorem Fits.none_some {a b : List Ev} {i k : Nat} {r : Nat × Int} (h1 : Beh a i none) (h2 : Beh b k (some r)) : ¬ Fits a b i k := by
  rintro (⟨_, q⟩ | ⟨j, m, n, x, y, p, _⟩)
  · have := h2.unique q; cases this
  · have := h1.unique p; cases this
theorem Fits.some_none {a b : List Ev} {i k : Nat} {r : Nat × Int} (h1 : Beh a i (some r)) (h2 : Beh b k none) : ¬ Fits a b i k := by
  rintro (⟨q, _⟩ | ⟨j, m, n, x, y, _, p, _⟩)
  · have := h1.unique q; cases this
  · have := h2.unique p; cases this
theorem Fits.some_some {a b : List Ev} {i k j m : Nat} {n o : Int} {x y : Ev} (h1 : Beh a i (some (j, n))) (h2 : Beh b k (some (m, o))) (hx : a[j]? = some x) (hy : b[m]? = some y) (h : Fits a b i k) : n = o ∧ x.s.one y.s = true := by
  rcases h with ⟨q, _⟩ | ⟨j', m', n', x', y', p1, p2, p3, p4, p5⟩
  · have := h1.unique q; cases this
  · have e1 := h1.unique p1; injection e1 with e1; injection e1 with e1 e2; subst e1; subst e2
    have e3 := h2.unique p2; injection e3 with e3; injection e3 with e3 e4; subst e3; subst e4
    rw [hx] at p3; injection p3 with p3; subst p3
    rw [hy] at p4; injection p4 with p4; subst p4
    exact ⟨rfl, p5⟩

/-- A pair that has been looked at: what is behind it is among those that were met. -/
def Done (a b : List Ev) (ms : List (Nat × Nat)) (i k : Nat) : Prop := (Beh a i none ∧ Beh b k none) ∨ ∃ j m n, Beh a i (some (j, n)) ∧ Beh b k (some (m, n)) ∧ (j, m) ∈ ms
def Wait (a b : List Ev) (ws ms : List (Nat × Nat)) (i k : Nat) : Prop := (i, k) ∈ ws ∨ Done a b ms i k
/-- What holds while pairs wait. -/
structure Inv (a b : List Ev) (ws ms : List (Nat × Nat)) : Prop where
  meets : ∀ p ∈ ws, Meets a b p.1 p.2
  start : Wait a b ws ms 0 0
  clos : ∀ j m, (j, m) ∈ ms → ∃ x y, a[j]? = some x ∧ b[m]? = some y ∧ x.s.one y.s = true ∧ ∀ c, c < max x.next.length y.next.length → Wait a b ws ms (x.nx c) (y.nx c)
  nodup : ms.Nodup
theorem Inv.begin (a b : List Ev) : Inv a b [(0, 0)] [] := ⟨fun p hp => by simp at hp; subst hp; exact .first, .inl (by simp), fun j m h => (by cases h), by simp⟩
theorem Inv.final {a b : List Ev} {ms : List (Nat × Nat)} (h : Inv a b [] ms) (ha : right a = true) (hb : right b = true) : Goes a b := by
  have key : ∀ i k, Meets a b i k → Done a b ms i k := by
    intro i k hm
    induction hm with
    | first => exact h.start.resolve_left (by simp)
    | @next i k j m n o x y c hm h1 h2 hx hy hc ih =>
      rcases ih with ⟨q, _⟩ | ⟨j', m', n', p1, p2, p3⟩
      · have := h1.unique q; cases this
      · have e1 := h1.unique p1; injection e1 with e1; injection e1 with e1 e2; subst e1; subst e2
        have e3 := h2.unique p2; injection e3 with e3; injection e3 with e3 e4; subst e3; subst e4
        obtain ⟨x', y', q1, q2, q3, q4⟩ := h.clos _ _ p3
        rw [hx] at q1; injection q1 with q1; subst q1
        rw [hy] at q2; injection q2 with q2; subst q2
        exact (q4 c hc).resolve_left (by simp)
  refine ⟨ha, hb, fun i k hm => ?_⟩
  rcases key i k hm with q | ⟨j, m, n, p1, p2, p3⟩
  · exact .inl q
  · obtain ⟨x, y, q1, q2, q3, _⟩ := h.clos _ _ p3
    exact .inr ⟨j, m, n, x, y, p1, p2, q1, q2, q3⟩
theorem Done.mono {a b : List Ev} {ms ms2 : List (Nat × Nat)} (hs : ∀ p ∈ ms, p ∈ ms2) {i k : Nat} (h : Done a b ms i k) : Done a b ms2 i k := by
  rcases h with h | ⟨j, m, n, h1, h2, h3⟩
  · exact .inl h
  · exact .inr ⟨j, m, n, h1, h2, hs _ h3⟩
theorem Wait.pop {a b : List Ev} {ws new ms ms2 : List (Nat × Nat)} {p : Nat × Nat} (hs : ∀ q ∈ ms, q ∈ ms2) (hd : Done a b ms2 p.1 p.2) {i k : Nat} (h : Wait a b (ws ++ [p]) ms i k) : Wait a b (ws ++ new) ms2 i k := by
  rcases h with h | h
  · rcases List.mem_append.1 h with h | h
    · exact .inl (by simp [h])
    · simp at h; subst h; exact .inr hd
  · exact .inr (h.mono hs)
theorem Inv.done {a b : List Ev} {ws ms : List (Nat × Nat)} {p : Nat × Nat} (h : Inv a b (ws ++ [p]) ms) (hd : Done a b ms p.1 p.2) : Inv a b ws ms := by
  have hp : ∀ {i k : Nat}, Wait a b (ws ++ [p]) ms i k → Wait a b ws ms i k := by
    intro i k hw
    have := hw.pop (new := []) (fun _ h => h) hd
    simpa using this
  refine ⟨fun q hq => h.meets q (by simp [hq]), hp h.start, fun j m hm => ?_, h.nodup⟩
  obtain ⟨x, y, q1, q2, q3, q4⟩ := h.clos j m hm
  exact ⟨x, y, q1, q2, q3, fun c hc => hp (q4 c hc)⟩
/-- The next pairs. -/
def nexts (x y : Ev) (n : Nat) : List (Nat × Nat) := (List.range n).map fun c => (x.nx c, y.nx c)
theorem nexts_succ (x y : Ev) (n : Nat) : nexts x y (n + 1) = nexts x y n ++ [(x.nx n, y.nx n)] := by simp [nexts, List.range_succ]
theorem Inv.more {a b : List Ev} {ws ms : List (Nat × Nat)} {i k j m : Nat} {n : Int} {x y : Ev} (h : Inv a b (ws ++ [(i, k)]) ms) (h1 : Beh a i (some (j, n))) (h2 : Beh b k (some (m, n))) (hx : a[j]? = some x) (hy : b[m]? = some y) (ho : x.s.one y.s = true) (hm : (j, m) ∉ ms) :
    Inv a b (ws ++ nexts x y (max x.next.length y.next.length)) (ms ++ [(j, m)]) := by
  have hp : ∀ {i' k' : Nat}, Wait a b (ws ++ [(i, k)]) ms i' k' → Wait a b (ws ++ nexts x y (max x.next.length y.next.length)) (ms ++ [(j, m)]) i' k' := by
    intro i' k' hw
    exact hw.pop (fun q hq => by simp [hq]) (.inr ⟨j, m, n, h1, h2, by simp⟩)
  refine ⟨fun q hq => ?_, hp h.start, fun j' m' hm' => ?_, ?_⟩
  · rcases List.mem_append.1 hq with hq | hq
    · exact h.meets q (by simp [hq])
    · simp only [nexts, List.mem_map, List.mem_range] at hq
      obtain ⟨c, hc, rfl⟩ := hq
      exact .next (h.meets (i, k) (by simp)) h1 h2 hx hy hc
  · rcases List.mem_append.1 hm' with hm' | hm'
    · obtain ⟨x', y', q1, q2, q3, q4⟩ := h.clos j' m' hm'
      exact ⟨x', y', q1, q2, q3, fun c hc => hp (q4 c hc)⟩
    · simp at hm'
      obtain ⟨rfl, rfl⟩ := hm'
      exact ⟨x, y, hx, hy, ho, fun c hc => .inl (by
        refine List.mem_append_right _ ?_
        simp only [nexts, List.mem_map, List.mem_range]
        exact ⟨c, hc, rfl⟩)⟩
  · rw [List.nodup_append]
    exact ⟨h.nodup, by simp, fun a ha b hb e => by simp at hb; subst hb; subst e; exact hm ha⟩
theorem pair_lt {A B j m : Nat} (hj : j < A) (hm : m < B) : j * B + m < A * B := by
  have h1 : j * B + m < (j + 1) * B := by rw [Nat.succ_mul]; omega
  exact Nat.lt_of_lt_of_le h1 (Nat.mul_le_mul_right B hj)
theorem pair_inj {B j m j' m' : Nat} (hm : m < B) (hm' : m' < B) (h : j * B + m = j' * B + m') : j = j' ∧ m = m' := by
  have hB : 0 < B := by omega
  have e1 : (j * B + m) / B = j := by rw [Nat.mul_comm, Nat.mul_add_div hB, Nat.div_eq_of_lt hm]; omega
  have e2 : (j' * B + m') / B = j' := by rw [Nat.mul_comm, Nat.mul_add_div hB, Nat.div_eq_of_lt hm']; omega
  have e3 : (j * B + m) % B = m := by rw [Nat.mul_comm, Nat.mul_add_mod, Nat.mod_eq_of_lt hm]
  have e4 : (j' * B + m') % B = m' := by rw [Nat.mul_comm, Nat.mul_add_mod, Nat.mod_eq_of_lt hm']
  rw [h] at e1 e3
  exact ⟨by omega, by omega⟩
theorem Inv.few {a b : List Ev} {ws ms : List (Nat × Nat)} (h : Inv a b ws ms) : ms.length ≤ a.length * b.length := by
  have hr : ∀ p ∈ ms, p.1 < a.length ∧ p.2 < b.length := by
    intro p hp
    obtain ⟨x, y, q1, q2, _⟩ := h.clos p.1 p.2 hp
    exact ⟨(List.getElem?_eq_some_iff.1 q1).1, (List.getElem?_eq_some_iff.1 q2).1⟩
  have := nodup_len (a.length * b.length) (ms.map fun p => p.1 * b.length + p.2) (by
    have hd := h.nodup
    clear h
    induction ms with
    | nil => simp
    | cons p l ih =>
      rw [List.nodup_cons] at hd
      rw [List.map_cons, List.nodup_cons]
      refine ⟨fun hm => ?_, ih (fun q hq => hr q (by simp [hq])) hd.2⟩
      obtain ⟨q, hq, e⟩ := List.mem_map.1 hm
      have h1 := hr p (by simp)
      have h2 := hr q (by simp [hq])
      obtain ⟨e1, e2⟩ := pair_inj h2.2 h1.2 e
      have : q = p := by cases p; cases q; simp_all
      subst this
      exact hd.1 hq) (fun x hx => by
    obtain ⟨p, hp, rfl⟩ := List.mem_map.1 hx
    exact pair_lt (hr p hp).1 (hr p hp).2)
  simpa using this
end Go.Abs
