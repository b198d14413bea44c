/-
  A part of the proof. Conditions: none.
-/
import Derived.Test.YtfgkfjmbjopfgaaGreatP3
import Derived.ChangeArms
import Derived.Below
set_option linter.unusedVariables false
set_option linter.unusedSimpArgs false
set_option maxRecDepth 100000
namespace Go.Abs
open Go

def noOwn : Nat → Prop := fun _ => False
def noMaps : Maps := ⟨fun _ => none, fun _ _ => none, fun _ _ => none⟩
def CellsR (w : World) (cs : List V) (us : List Value) : Prop := us.length = cs.length ∧ ∀ (i : Nat) (c : V) (u : Value), cs[i]? = some c → us[i]? = some u → VR (Rd noOwn w) noMaps c u ∧ u.oneCell' = true
theorem CellsR.nil (w : World) : CellsR w [] [] := ⟨rfl, fun i c u h => by simp at h⟩
theorem CellsR.cons {w : World} {c : V} {u : Value} {cs : List V} {us : List Value} (h1 : VR (Rd noOwn w) noMaps c u) (h2 : u.oneCell' = true) (h : CellsR w cs us) : CellsR w (c :: cs) (u :: us) := by
 refine ⟨by simp [h.1], fun i c' u' hc hu => ?_⟩
 cases i with
 | zero => simp at hc hu; subst hc; subst hu; exact ⟨h1, h2⟩
 | succ i => exact h.2 i c' u' (by simpa using hc) (by simpa using hu)
theorem CellsR.append {w : World} {cs ds : List V} {us vs : List Value} (h1 : CellsR w cs us) (h2 : CellsR w ds vs) : CellsR w (cs ++ ds) (us ++ vs) := by
 refine ⟨by simp [h1.1, h2.1], fun i c u hc hu => ?_⟩
 by_cases hi : i < cs.length
 ·rw [List.getElem?_append_left hi] at hc
  rw [List.getElem?_append_left (by rw [h1.1]; exact hi)] at hu
  exact h1.2 i c u hc hu
 ·rw [List.getElem?_append_right (by omega)] at hc
  rw [List.getElem?_append_right (by rw [h1.1]; omega), h1.1] at hu
  exact h2.2 _ c u hc hu

theorem addr_none (b o k : Nat) : (⟨b, o, none⟩ : Addr).add k = ⟨b, o + k, none⟩ := by
 unfold Addr.add
 split
 ·rename_i h; subst h; rfl
 ·rfl
theorem addr_add (a : Addr) (i j : Nat) : (a.add i).add j = a.add (i + j) := by
 by_cases h1 : i = 0
 ·subst h1; simp [Addr.add]
 ·by_cases h2 : j = 0
  ·subst h2; simp [Addr.add]
  ·simp [Addr.add, h1, h2, Nat.add_assoc]
theorem list_of {α : Type} {p : Nat → α → Prop} : ∀ (n : Nat), (∀ i, i < n → ∃ x, p i x) → ∃ l : List α, l.length = n ∧ ∀ i x, l[i]? = some x → p i x
 | 0, _ => ⟨[], rfl, fun i x h => by simp at h⟩
 | n + 1, h => by
  obtain ⟨l, hl, hp⟩ := list_of n (fun i hi => h i (by omega))
  obtain ⟨x, hx⟩ := h n (by omega)
  refine ⟨l ++ [x], by simp [hl], fun i y hy => ?_⟩
  by_cases hi : i < l.length
  ·rw [List.getElem?_append_left hi] at hy; exact hp i y hy
  ·have hi2 : i = n := by have := (List.getElem?_eq_some_iff.1 hy).1; simp at this; omega
   subst hi2
   rw [List.getElem?_append_right (by omega)] at hy
   simp [hl] at hy
   subst hy; exact hx

section
variable {H : Type} {enc : TypeId × Value → H} {P : Program} {w : World} {spare : Nat → Bool} {held : Bool}

theorem mapM_get {α β : Type} {f : α → Option β} : ∀ {l : List α} {r : List β}, l.mapM f = some r → r.length = l.length ∧ ∀ (i : Nat) (x : α), l[i]? = some x → f x = r[i]?
 | [], r, h => by
  simp at h; subst h
  exact ⟨rfl, fun i x h => by simp at h⟩
 | a :: l, r, h => by
  simp only [List.mapM_cons, Option.pure_def, Option.bind_eq_bind, Option.bind_eq_some_iff] at h
  obtain ⟨b, hb, bs, hbs, e⟩ := h
  simp at e; subst e
  obtain ⟨h1, h2⟩ := mapM_get hbs
  refine ⟨by simp [h1], fun i x hx => ?_⟩
  cases i with
  | zero => simp at hx; subst hx; simpa using hb
  | succ i => simpa using h2 i x (by simpa using hx)

theorem slice_read {α : Type} {cells : α → List V} {t e : TypeId} {sz fuel : Nat} {cs : List Value} {x : DataW H × List MemPlace} (ht : P.underlying t = some (.slice e)) (hs : P.cellsOf e = sz) (hsz : 0 < sz) (hlen : ∀ y, (cells y).length = sz)
  (ih : ∀ (n : Nat) (us : List Value) (y : DataW H × List MemPlace), n < fuel → DataW.trod enc P w 0 spare held n e us = some y → ∃ z, CellsR w (cells z) us)
  (h : DataW.trod enc P w 0 spare held fuel t cs = some x) : ∃ (l : List α) (u : Value), cs = [u] ∧ VR (Rd noOwn w) noMaps (.fsl sz (l.map cells)) u ∧ u.oneCell' = true := by
 rcases DataW.trod_slice ht h with ⟨rfl, _⟩ | ⟨a, len, cap, elems, rest, n, rfl, rfl, _, _, hlc, _, hel, hget, _, _⟩
 ·exact ⟨[], _, rfl, .fsl0 _ _ _, rfl⟩
 ·have hone : ∀ i, i < len → ∃ z : α × List Value, CellsR w (cells z.1) z.2 ∧ ∀ j, j < sz → w.cell? (a.add (i * sz + j)) = z.2[j]? ∧ j < z.2.length := by
   intro i hi
   have hg := hget i hi
   obtain ⟨y, hy⟩ : ∃ y, elems[i]? = some y := ⟨_, List.getElem?_eq_getElem (by omega)⟩
   rw [hy, Option.bind_eq_some_iff] at hg
   obtain ⟨us, h1, h2⟩ := hg
   obtain ⟨z, hz⟩ := ih n us y (by omega) h2
   rw [hs] at h1
   unfold World.cells? at h1
   rw [if_pos (by simp)] at h1
   obtain ⟨q1, q2⟩ := mapM_get h1
   refine ⟨(z, us), hz, fun j hj => ⟨?_, by simp at q1; simp only []; omega⟩⟩
   have := q2 j j (by rw [List.getElem?_range hj])
   rw [← this, addr_add]
  obtain ⟨l, hl, hp⟩ := list_of len hone
  refine ⟨l.map (·.1), _, rfl, ?_, rfl⟩
  have hlen2 : ((l.map (·.1)).map cells).length = len := by simp [hl]
  rw [← hlen2]
  by_cases h0 : len = 0
  ·have : l = [] := List.eq_nil_of_length_eq_zero (by omega)
   subst this
   exact .fsl0 _ _ _
  ·obtain ⟨b, off, spot⟩ := a
   have hspot : spot = none := by
    obtain ⟨z, _, hz⟩ := hone 0 (by omega)
    obtain ⟨q1, q2⟩ := hz 0 hsz
    rw [List.getElem?_eq_getElem q2] at q1
    cases spot with
    | none => rfl
    | some s =>
     unfold World.cell? at q1
     simp only [Addr.add] at q1
     split at q1
     ·simp at q1
     ·cases q1
   subst hspot
   have hat : ∀ (i : Nat) (X : List V), ((l.map (·.1)).map cells)[i]? = some X → ∃ z, l[i]? = some z ∧ X = cells z.1 := by
    intro i X hX
    simp only [List.getElem?_map, Option.map_eq_some_iff] at hX
    obtain ⟨y, ⟨z, hz, e1⟩, e2⟩ := hX
    subst e1
    exact ⟨z, hz, e2.symm⟩
   refine .fsl sz _ b off cap (fun i j => (w.cell? ⟨b, off + i * sz + j, none⟩).getD default) (by omega) (fun i X hX => ?_) (fun i X j c hX hj => ?_) (fun i X j c hX hj => ?_) (fun i X j c hX hj => ?_)
   ·obtain ⟨z, _, rfl⟩ := hat i X hX; exact hlen z.1
   all_goals
    obtain ⟨z, hz, rfl⟩ := hat i X hX
    obtain ⟨h1, h2⟩ := hp i z hz
    have hjs : j < sz := by have := (List.getElem?_eq_some_iff.1 hj).1; rw [hlen] at this; exact this
    obtain ⟨q1, q2⟩ := h2 j hjs
    have q3 : w.cell? ⟨b, off + i * sz + j, none⟩ = some z.2[j] := by
     rw [← List.getElem?_eq_getElem q2, ← q1, addr_none, Nat.add_assoc]
    have q4 := h1.2 j c z.2[j] hj (List.getElem?_eq_getElem q2)
   ·exact ⟨fun h => h, by simp only [q3, Option.getD_some]⟩
   ·simp only [q3, Option.getD_some]; exact q4.2
   ·simp only [q3, Option.getD_some]; exact q4.1
theorem struct_read {t : TypeId} {fs : Array Field} {fuel : Nat} {cs : List Value} {x : DataW H × List MemPlace} (ht : P.underlying t = some (.struct fs)) (h : DataW.trod enc P w 0 spare held fuel t cs = some x) :
  ∃ n, fuel = n + 1 ∧ cs.length = P.cellsOf t ∧ ∀ (i : Nat) (f : Field), fs[i]? = some f → ∃ y, DataW.trod enc P w 0 spare held n f.type ((cs.drop f.offset).take (P.cellsOf f.type)) = some y := by
 obtain ⟨xs, n, e1, _, e3, e4, e5⟩ := DataW.trod_struct ht h
 refine ⟨n, e1, e3, fun i f hf => ?_⟩
 have hi : i < xs.length := by rw [e4]; exact (Array.getElem?_eq_some_iff.1 hf).1
 exact ⟨xs[i], by rw [e5 i f hf]; exact List.getElem?_eq_getElem hi⟩
theorem int_read {t : TypeId} {k : IntKind} {fuel : Nat} {u : Value} {x : DataW H × List MemPlace} (ht : P.underlying t = some (.int k)) (h : DataW.trod enc P w 0 spare held fuel t [u] = some x) : ∃ n, u = .int k n := by
 obtain ⟨n, e, _, _⟩ := DataW.trod_int ht h
 simp at e
 exact ⟨n, e⟩
end
end Go.Abs
