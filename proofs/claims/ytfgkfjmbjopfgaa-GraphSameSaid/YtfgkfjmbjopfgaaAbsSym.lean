/-
  The abstract machine, step by step: equations that 'simp' follows. What stands behind is always a function of the state, not yet applied: nothing is done behind a test that is not decided.
-/
import Derived.Test.YtfgkfjmbjopfgaaAbsRules
import Derived.IntWalk
set_option linter.unusedVariables false
set_option linter.unusedSimpArgs false
namespace Go.Abs
open Go

/-! ### Slots, as what was laid last first -/

def look : List (Nat × V) → Nat → V
  | [], _ => .undef
  | (k, v) :: l, n => bif k == n then v else look l n
theorem look_nil (n : Nat) : look [] n = .undef := rfl
theorem look_cons (k : Nat) (v : V) (l : List (Nat × V)) (n : Nat) : look ((k, v) :: l) n = bif k == n then v else look l n := rfl
/-- 'n' slots. -/
def E (n : Nat) (l : List (Nat × V)) : List V := (List.range n).map (look l)

def lookB : List (Nat × Option (Nat × List V)) → Nat → Option (Nat × List V)
  | [], _ => none
  | (k, v) :: l, n => bif k == n then v else lookB l n
theorem lookB_nil (n : Nat) : lookB [] n = none := rfl
theorem lookB_cons (k : Nat) (v : Option (Nat × List V)) (l : List (Nat × Option (Nat × List V))) (n : Nat) : lookB ((k, v) :: l) n = bif k == n then v else lookB l n := rfl
def B (n : Nat) (l : List (Nat × Option (Nat × List V))) : List (Option (Nat × List V)) := (List.range n).map (lookB l)

theorem ev_E (n k : Nat) (l : List (Nat × V)) : ev (E n l) (.t k) = bif k + 1 - n == 0 then look l k else .undef := by
  simp only [ev, E, List.getD_eq_getElem?_getD, List.getElem?_map]
  by_cases h : k < n
  · have : (k + 1 - n == 0) = true := by simp only [beq_iff_eq]; omega
    simp [h, this]
  · have : (k + 1 - n == 0) = false := by simp only [beq_eq_false_iff_ne]; omega
    simp [h, this]
theorem ev_c (e : List V) (v : V) : ev e (.c v) = v := rfl
theorem set_E (n d : Nat) (v : V) (l : List (Nat × V)) : (E n l).set d v = E n ((d, v) :: l) := by
  apply List.ext_getElem?
  intro i
  simp only [E, List.getElem?_set, List.getElem?_map, List.length_map, List.length_range]
  by_cases h : i < n
  · by_cases e : d = i
    · subst e; simp [h, look]
    · have : (d == i) = false := by simpa using e
      simp [h, e, look, this]
  · by_cases e : d = i
    · subst e; simp [h]
    · simp [h, e]
theorem getD_B (n k : Nat) (l : List (Nat × Option (Nat × List V))) : (B n l).getD k none = bif k + 1 - n == 0 then lookB l k else none := by
  simp only [B, List.getD_eq_getElem?_getD, List.getElem?_map]
  by_cases h : k < n
  · have : (k + 1 - n == 0) = true := by simp only [beq_iff_eq]; omega
    simp [h, this]
  · have : (k + 1 - n == 0) = false := by simp only [beq_eq_false_iff_ne]; omega
    simp [h, this]
theorem set_B (n d : Nat) (v : Option (Nat × List V)) (l : List (Nat × Option (Nat × List V))) : (B n l).set d v = B n ((d, v) :: l) := by
  apply List.ext_getElem?
  intro i
  simp only [B, List.getElem?_set, List.getElem?_map, List.length_map, List.length_range]
  by_cases h : i < n
  · by_cases e : d = i
    · subst e; simp [h, lookB]
    · have : (d == i) = false := by simpa using e
      simp [h, e, lookB, this]
  · by_cases e : d = i
    · subst e; simp [h]
    · simp [h, e]

theorem look_map (live : List Nat) (f : Nat → V) (k : Nat) : look (live.map fun k => (k, f k)) k = if live.contains k then f k else .undef := by
  induction live with
  | nil => rfl
  | cons x l ih =>
    simp only [List.map_cons, look_cons, ih, List.contains_cons]
    by_cases h : x = k
    · subst h; simp
    · have h1 : (x == k) = false := by simpa using h
      have h2 : (k == x) = false := by simpa using fun e => h e.symm
      simp [h1, h2]
theorem lookB_map (live : List Nat) (f : Nat → Option (Nat × List V)) (k : Nat) : lookB (live.map fun k => (k, f k)) k = if live.contains k then f k else none := by
  induction live with
  | nil => rfl
  | cons x l ih =>
    simp only [List.map_cons, lookB_cons, ih, List.contains_cons]
    by_cases h : x = k
    · subst h; simp
    · have h1 : (x == k) = false := by simpa using h
      have h2 : (k == x) = false := by simpa using fun e => h e.symm
      simp [h1, h2]

theorem keep_E (live : List Nat) (n : Nat) (l : List (Nat × V)) : keepOnly live .undef (E n l) = E n (live.map fun k => (k, look l k)) := by
  apply List.ext_getElem?
  intro i
  simp only [keepOnly, E, List.getElem?_map, List.getElem?_zipIdx, Option.map_map]
  by_cases h : i < n
  · simp [h, look_map]
  · simp [h]
theorem keep_B (live : List Nat) (n : Nat) (l : List (Nat × Option (Nat × List V))) : keepOnly live none (B n l) = B n (live.map fun k => (k, lookB l k)) := by
  apply List.ext_getElem?
  intro i
  simp only [keepOnly, B, List.getElem?_map, List.getElem?_zipIdx, Option.map_map]
  by_cases h : i < n
  · simp [h, lookB_map]
  · simp [h]

def number (k : Nat) : List V → List (Nat × V)
  | [] => []
  | v :: l => (k, v) :: number (k + 1) l
theorem look_number : ∀ (vs : List V) (k i : Nat), look (number k vs) (k + i) = vs.getD i .undef
  | [], _, _ => by simp [number, look]
  | v :: l, k, 0 => by simp [number, look]
  | v :: l, k, i + 1 => by
    have h : (k == k + (i + 1)) = false := by simp
    simp only [number, look, h, cond_false]
    rw [show k + (i + 1) = (k + 1) + i by omega, look_number l (k + 1) i]
    rfl
theorem start_E (fn : AFn) (vs : List V) (h : Heap) (hn : vs.length ≤ fn.ntmps) : start fn vs h = ⟨E fn.ntmps (number 0 vs), B fn.ntmps [], h⟩ := by
  unfold start
  congr 1
  · apply List.ext_getElem?
    intro i
    have hl := look_number vs 0 i
    rw [Nat.zero_add] at hl
    simp only [E, List.getElem?_map]
    by_cases hi : i < fn.ntmps
    · simp only [List.getElem?_range hi, Option.map_some, hl, List.getD_eq_getElem?_getD]
      by_cases h2 : i < vs.length
      · simp [List.getElem?_append_left h2, h2]
      · rw [List.getElem?_append_right (by omega), List.getElem?_replicate, if_pos (by omega)]
        simp [h2]
    · have : ¬ i < vs.length := by omega
      rw [List.getElem?_append_right (by omega), List.getElem?_replicate, if_neg (by omega)]
      simp [hi]
  · apply List.ext_getElem?
    intro i
    simp only [B, List.getElem?_map, List.getElem?_replicate]
    by_cases hi : i < fn.ntmps <;> simp [hi, lookB]

/-! ### What stands behind -/

def onPut (o : Option V) (d : Option Nat) (K : S → Prop) (s : S) : Prop :=
  match o with
  | some v => K (s.put d v)
  | none => False
theorem onPut_some (v : V) (d : Nat) (K : S → Prop) (e : List V) (b : List (Option (Nat × List V))) (h : Heap) : onPut (some v) (some d) K ⟨e, b, h⟩ = K ⟨e.set d v, b, h⟩ := rfl
theorem onPut_none (v : V) (K : S → Prop) (s : S) : onPut (some v) none K s = K s := rfl

def br (b : Bool) (p q : S → Prop) (s : S) : Prop := if b then p s else q s
theorem br_true (p q : S → Prop) (s : S) : br true p q s = p s := rfl
theorem br_false (p q : S → Prop) (s : S) : br false p q s = q s := by simp [br]
theorem br_not (b : Bool) (p q : S → Prop) (s : S) : br (!b) p q s = br b q p s := by cases b <;> simp [br]
theorem beq_true' (b : Bool) : (b == true) = b := by cases b <;> rfl
theorem beq_false' (b : Bool) : (b == false) = !b := by cases b <;> rfl
theorem br_intro {b : Bool} {p q : S → Prop} {s : S} (h1 : b = true → p s) (h2 : b = false → q s) : br b p q s := by
  cases b
  · rw [br_false]; exact h2 rfl
  · rw [br_true]; exact h1 rfl

theorem br_intro2 {b : Bool} {p q : S → Prop} {s : S} (h2 : b = false → q s) (h1 : b = true → p s) : br b p q s := br_intro h1 h2

def onBool (v : V) (p q : S → Prop) (s : S) : Prop :=
  match v with
  | .bool b => br b p q s
  | _ => False
theorem onBool_bool (b : Bool) (p q : S → Prop) (s : S) : onBool (.bool b) p q s = br b p q s := rfl

def onGuard (v : V) (w : Bool) (p q : S → Prop) (s : S) : Prop :=
  match v with
  | .bool b => br (b == w) p q s
  | .skip => q s
  | _ => False
theorem onGuard_bool (b w : Bool) (p q : S → Prop) (s : S) : onGuard (.bool b) w p q s = br (b == w) p q s := rfl
theorem onGuard_skip (w : Bool) (p q : S → Prop) (s : S) : onGuard .skip w p q s = q s := rfl

/-- Not carried out. -/
def skipK (d : Option Nat) (K : S → Prop) (s : S) : Prop := K (s.put d .skip)
theorem skipK_some (d : Nat) (K : S → Prop) (e : List V) (b : List (Option (Nat × List V))) (h : Heap) : skipK (some d) K ⟨e, b, h⟩ = K ⟨e.set d .skip, b, h⟩ := rfl
theorem skipK_none (K : S → Prop) (s : S) : skipK none K s = K s := rfl

/-- An operation that reads. -/
def valK (d : Option Nat) (x : AVal) (K : S → Prop) (s : S) : Prop := onPut (x.eval s.env s.bx s.h) d K s
theorem valK_eq (d : Option Nat) (x : AVal) (K : S → Prop) (e : List V) (b : List (Option (Nat × List V))) (h : Heap) : valK d x K ⟨e, b, h⟩ = onPut (x.eval e b h) d K ⟨e, b, h⟩ := rfl

def onCells (o : Option (List V)) (K : List V → Prop) : Prop :=
  match o with
  | some v => K v
  | none => False
theorem onCells_some (v : List V) (K : List V → Prop) : onCells (some v) K = K v := rfl

def boxK (d n : Nat) (K : S → Prop) (s : S) (cs : List V) : Prop := cs.length = n ∧ s.bx.getD d none = none ∧ ∀ g, K { env := s.env.set d (.lp d g 0), bx := s.bx.set d (some (g, cs)), h := s.h }
theorem boxK_eq (d n : Nat) (K : S → Prop) (e : List V) (b : List (Option (Nat × List V))) (h : Heap) (cs : List V) : boxK d n K ⟨e, b, h⟩ cs = (cs.length = n ∧ b.getD d none = none ∧ ∀ g, K ⟨e.set d (.lp d g 0), b.set d (some (g, cs)), h⟩) := rfl
def hboxK (d n : Nat) (K : S → Prop) (s : S) (cs : List V) : Prop := cs.length = n ∧ ∀ id, s.h id = none → K { env := s.env.set d (.ep id 0 0), bx := s.bx, h := s.h.upd id (some (.arr n [cs])) }
theorem hboxK_eq (d n : Nat) (K : S → Prop) (e : List V) (b : List (Option (Nat × List V))) (h : Heap) (cs : List V) : hboxK d n K ⟨e, b, h⟩ cs = (cs.length = n ∧ ∀ id, h id = none → K ⟨e.set d (.ep id 0 0), b, h.upd id (some (.arr n [cs]))⟩) := rfl
def bslK (d sz n : Nat) (K : S → Prop) (s : S) (cs : List V) : Prop := ∀ id, s.h id = none → K { env := s.env.set d (.msl id 0 n), bx := s.bx, h := s.h.upd id (some (.arr sz ((List.range n).map fun i => (cs.drop (i * sz)).take sz))) }
theorem bslK_eq (d sz n : Nat) (K : S → Prop) (e : List V) (b : List (Option (Nat × List V))) (h : Heap) (cs : List V) : bslK d sz n K ⟨e, b, h⟩ cs = (∀ id, h id = none → K ⟨e.set d (.msl id 0 n), b, h.upd id (some (.arr sz ((List.range n).map fun i => (cs.drop (i * sz)).take sz)))⟩) := rfl
def onS (o : Option S) (K : S → Prop) : Prop :=
  match o with
  | some s => K s
  | none => False
theorem onS_some (s : S) (K : S → Prop) : onS (some s) K = K s := rfl
def stK (x v : Opd) (n : Nat) (K : S → Prop) (s : S) : Prop := onS (storeOf s (ev s.env x) (ev s.env v) n) K
theorem stK_eq (x v : Opd) (n : Nat) (K : S → Prop) (e : List V) (b : List (Option (Nat × List V))) (h : Heap) : stK x v n K ⟨e, b, h⟩ = onS (storeOf ⟨e, b, h⟩ (ev e x) (ev e v) n) K := rfl

/-- Behind a call. -/
def retK (d : Option Nat) (K : S → Prop) (s : S) (r : V) (h : Heap) : Prop := K (({ s with h := h } : S).put d r)
theorem retK_some (d : Nat) (K : S → Prop) (e : List V) (b : List (Option (Nat × List V))) (h h2 : Heap) (r : V) : retK (some d) K ⟨e, b, h⟩ r h2 = K ⟨e.set d r, b, h2⟩ := rfl
theorem retK_none (K : S → Prop) (e : List V) (b : List (Option (Nat × List V))) (h h2 : Heap) (r : V) : retK none K ⟨e, b, h⟩ r h2 = K ⟨e, b, h2⟩ := rfl
def callK (C : Call) (d : Option Nat) (f : Nat) (as : List Opd) (K : S → Prop) (s : S) : Prop := callOk C f (as.map (ev s.env)) s.h (retK d K s)
theorem callK_eq (C : Call) (d : Option Nat) (f : Nat) (as : List Opd) (K : S → Prop) (e : List V) (b : List (Option (Nat × List V))) (h : Heap) : callK C d f as K ⟨e, b, h⟩ = callOk C f (as.map (ev e)) h (retK d K ⟨e, b, h⟩) := rfl
def pcallK (C : Call) (d : Option Nat) (f : Nat) (as : List Opd) (K : S → Prop) (s : S) : Prop := callPure C f (as.map (ev s.env)) s.h (retK d K s)
theorem pcallK_eq (C : Call) (d : Option Nat) (f : Nat) (as : List Opd) (K : S → Prop) (e : List V) (b : List (Option (Nat × List V))) (h : Heap) : pcallK C d f as K ⟨e, b, h⟩ = callPure C f (as.map (ev e)) h (retK d K ⟨e, b, h⟩) := rfl

/-- And then. -/
def Thn (C : Call) (b : ACode) (Q : Out → S → Prop) (o : Out) (s : S) : Prop :=
  match o with
  | .normal => W C b Q s
  | .exit i => Q (.exit i) s
  | .ret => Q .ret s
/-- Out of a block. -/
def Bl (id : Nat) (Q : Out → S → Prop) (o : Out) (s : S) : Prop :=
  match o with
  | .normal => Q .normal s
  | .exit i => bif i == id then Q .normal s else Q (.exit i) s
  | .ret => Q .ret s

section
variable (C : Call) (Q : Out → S → Prop) (s : S)

theorem W_skip : W C .skip Q s = Q .normal s := rfl
theorem W_region (d : Bool) (l : List AOp) : W C (.region d l) Q s = wOps C l (Q .normal) s := rfl
theorem W_seq (a b : ACode) : W C (.seq a b) Q s = W C a (Thn C b Q) s := by
  show W C a (fun o s2 => match o with | .normal => W C b Q s2 | .exit i => Q (.exit i) s2 | .ret => Q .ret s2) s = _
  have : (fun (o : Out) s2 => match o with | .normal => W C b Q s2 | .exit i => Q (.exit i) s2 | .ret => Q .ret s2) = Thn C b Q := by
    funext o s2; cases o <;> rfl
  rw [this]
theorem W_cond (c : Opd) (x y : ACode) : W C (.cond c x y) Q s = onBool (ev s.env c) (W C x Q) (W C y Q) s := by
  simp only [W, onBool]
  cases ev s.env c <;> rfl
theorem W_block (id : Nat) (x : ACode) : W C (.block id x) Q s = W C x (Bl id Q) s := by
  show W C x (fun o s2 => match o with | .normal => Q .normal s2 | .exit i => if i = id then Q .normal s2 else Q (.exit i) s2 | .ret => Q .ret s2) s = _
  have : (fun (o : Out) s2 => match o with | .normal => Q .normal s2 | .exit i => if i = id then Q .normal s2 else Q (.exit i) s2 | .ret => Q .ret s2) = Bl id Q := by
    funext o s2
    cases o with
    | normal => rfl
    | ret => rfl
    | exit i => simp only [Bl, Bool.cond_eq_ite, beq_iff_eq]
  rw [this]
theorem W_exit (id : Nat) : W C (.exit id) Q s = Q (.exit id) s := rfl
theorem W_ret : W C .ret Q s = Q .ret s := rfl
theorem Thn_normal (b : ACode) : Thn C b Q .normal s = W C b Q s := rfl
theorem Thn_exit (b : ACode) (i : Nat) : Thn C b Q (.exit i) s = Q (.exit i) s := rfl
theorem Thn_ret (b : ACode) : Thn C b Q .ret s = Q .ret s := rfl
theorem Bl_normal (id : Nat) : Bl id Q .normal s = Q .normal s := rfl
theorem Bl_exit (id i : Nat) : Bl id Q (.exit i) s = bif i == id then Q .normal s else Q (.exit i) s := rfl
theorem Bl_ret (id : Nat) : Bl id Q .ret s = Q .ret s := rfl
theorem keep_eq (l b : List Nat) (n n2 : Nat) (x : List (Nat × V)) (y : List (Nat × Option (Nat × List V))) (h : Heap) :
    S.keep ⟨E n x, B n2 y, h⟩ l b = ⟨E n (l.map fun k => (k, look x k)), B n2 (b.map fun k => (k, lookB y k)), h⟩ := by simp only [S.keep, keep_E, keep_B]
theorem Again_normal (l b : List Nat) (x : ACode) : Again C l b x Q .normal s = Loop C l b x Q (s.keep l b) := rfl
theorem Again_exit (l b : List Nat) (x : ACode) (i : Nat) : Again C l b x Q (.exit i) s = Q (.exit i) s := rfl
theorem Again_ret (l b : List Nat) (x : ACode) : Again C l b x Q .ret s = Q .ret s := rfl
end

section
variable (C : Call) (K : S → Prop) (s : S)

theorem wOps_nil : wOps C [] K s = K s := rfl
theorem wOps_cons (o : AOp) (l : List AOp) : wOps C (o :: l) K s = o.step C s (wOps C l K) := rfl

theorem step_guard (o : AOp) (t : Nat) (w : Bool) (h : o.guard = some (t, w)) (p : S → Prop) (hp : o.run C s K = p s) : o.step C s K = onGuard (ev s.env (.t t)) w p (skipK o.dst K) s := by
  unfold AOp.step onGuard
  rw [h]
  simp only []
  rw [hp]
  cases ev s.env (.t t) <;> simp [br, skipK]
theorem step_plain (o : AOp) (h : o.guard = none) : o.step C s K = o.run C s K := by unfold AOp.step; rw [h]

theorem run_val (g : Option (Nat × Bool)) (d : Option Nat) (x : AVal) : (AOp.val g d x).run C s K = valK d x K s := by
  simp only [AOp.run, valK, onPut]
  cases x.eval s.env s.bx s.h <;> rfl
theorem val_0 (d : Option Nat) (x : AVal) : (AOp.val none d x).step C s K = valK d x K s := by
  rw [step_plain _ _ _ _ rfl, run_val]
theorem val_g (t : Nat) (w : Bool) (d : Option Nat) (x : AVal) : (AOp.val (some (t, w)) d x).step C s K = onGuard (ev s.env (.t t)) w (valK d x K) (skipK d K) s :=
  step_guard C K s _ t w rfl _ (run_val C K s _ d x)
theorem box_0 (d : Nat) (x : Opd) (n : Nat) : (AOp.box none d x n).step C s K = onCells (cellsOf (ev s.env x)) (boxK d n K s) := by
  rw [step_plain _ _ _ _ rfl]; simp only [AOp.run, onCells]
  cases cellsOf (ev s.env x) <;> rfl
theorem hbox_0 (d : Nat) (x : Opd) (n : Nat) : (AOp.hbox none d x n).step C s K = onCells (cellsOf (ev s.env x)) (hboxK d n K s) := by
  rw [step_plain _ _ _ _ rfl]; simp only [AOp.run, onCells]
  cases cellsOf (ev s.env x) <;> rfl
theorem bsl_0 (d sz n : Nat) (zero : List V) (ps : List (Nat × Nat × Opd)) : (AOp.bsl none d sz n zero ps).step C s K = onCells (fill s.env ((List.replicate n zero).flatten) ps) (bslK d sz n K s) := by
  rw [step_plain _ _ _ _ rfl]; simp only [AOp.run, onCells]
  cases fill s.env ((List.replicate n zero).flatten) ps <;> rfl
theorem st_0 (x v : Opd) (n : Nat) : (AOp.st none x v n).step C s K = stK x v n K s := by
  rw [step_plain _ _ _ _ rfl]; simp only [AOp.run, stK, onS]
  cases storeOf s (ev s.env x) (ev s.env v) n <;> rfl
theorem call_0 (d : Option Nat) (f : Nat) (as : List Opd) : (AOp.call none d f as).step C s K = callK C d f as K s := by
  rw [step_plain _ _ _ _ rfl]; rfl
theorem call_g (t : Nat) (w : Bool) (d : Option Nat) (f : Nat) (as : List Opd) : (AOp.call (some (t, w)) d f as).step C s K = onGuard (ev s.env (.t t)) w (callK C d f as K) (skipK d K) s :=
  step_guard C K s _ t w rfl _ rfl
theorem pcall_0 (d : Option Nat) (f : Nat) (as : List Opd) : (AOp.pcall none d f as).step C s K = pcallK C d f as K s := by
  rw [step_plain _ _ _ _ rfl]; rfl
theorem pcall_g (t : Nat) (w : Bool) (d : Option Nat) (f : Nat) (as : List Opd) : (AOp.pcall (some (t, w)) d f as).step C s K = onGuard (ev s.env (.t t)) w (pcallK C d f as K) (skipK d K) s :=
  step_guard C K s _ t w rfl _ rfl
end

/-! ### What the guides' cases want: alike, guarded or not -/

def bslS (d sz n : Nat) (zero : List V) (ps : List (Nat × Nat × Opd)) (K : S → Prop) (s : S) : Prop := onCells (fill s.env ((List.replicate n zero).flatten) ps) (bslK d sz n K s)
theorem bslS_eq (d sz n : Nat) (zero : List V) (ps : List (Nat × Nat × Opd)) (K : S → Prop) (e : List V) (b : List (Option (Nat × List V))) (h : Heap) : bslS d sz n zero ps K ⟨e, b, h⟩ = onCells (fill e ((List.replicate n zero).flatten) ps) (bslK d sz n K ⟨e, b, h⟩) := rfl
theorem run_bsl (C : Call) (K : S → Prop) (s : S) (g : Option (Nat × Bool)) (d sz n : Nat) (zero : List V) (ps : List (Nat × Nat × Opd)) : (AOp.bsl g d sz n zero ps).run C s K = bslS d sz n zero ps K s := by
  simp only [AOp.run, bslS, onCells]
  cases fill s.env ((List.replicate n zero).flatten) ps <;> rfl
theorem bsl_g (C : Call) (K : S → Prop) (s : S) (t : Nat) (w : Bool) (d sz n : Nat) (zero : List V) (ps : List (Nat × Nat × Opd)) : (AOp.bsl (some (t, w)) d sz n zero ps).step C s K = onGuard (ev s.env (.t t)) w (bslS d sz n zero ps K) (skipK (some d) K) s :=
  step_guard C K s _ t w rfl _ (run_bsl C K s _ d sz n zero ps)

def onInts (v u : V) (K : Int → Int → Prop) : Prop :=
  match v, u with
  | .int _ a, .int _ b => K a b
  | _, _ => False
theorem onInts_int (k k2 : IntKind) (a b : Int) (K : Int → Int → Prop) : onInts (.int k a) (.int k2 b) K = K a b := rfl
def mksK (d sz bytes : Nat) (zero : List V) (K : S → Prop) (s : S) (a b : Int) : Prop := 0 ≤ a ∧ a ≤ b ∧ b * bytes ≤ 140737488355328 ∧ b < 9223372036854775808 ∧
  ∀ id, s.h id = none → K { env := s.env.set d (.msl id 0 a.toNat), bx := s.bx, h := s.h.upd id (some (.arr sz (List.replicate a.toNat zero))) }
theorem mksK_eq (d sz bytes : Nat) (zero : List V) (K : S → Prop) (e : List V) (bx : List (Option (Nat × List V))) (h : Heap) (a b : Int) : mksK d sz bytes zero K ⟨e, bx, h⟩ a b = (0 ≤ a ∧ a ≤ b ∧ b * bytes ≤ 140737488355328 ∧ b < 9223372036854775808 ∧
  ∀ id, h id = none → K ⟨e.set d (.msl id 0 a.toNat), bx, h.upd id (some (.arr sz (List.replicate a.toNat zero)))⟩) := rfl
theorem mks_0 (C : Call) (K : S → Prop) (s : S) (d : Nat) (n c : Opd) (sz bytes : Nat) (zero : List V) : (AOp.mks none d n c sz bytes zero).step C s K = onInts (ev s.env n) (ev s.env c) (mksK d sz bytes zero K s) := by
  rw [step_plain _ _ _ _ rfl]
  simp only [AOp.run, onInts, mksK]
  cases ev s.env n <;> cases ev s.env c <;> rfl

/-- Something is appended. -/
def appK (d sz bytes : Nat) (K : S → Prop) (s : S) (x : V) (new : List (List V)) : Prop := (∀ z ∈ new, z.length = sz) ∧ (match x with
      | .nsl => (0 < new.length ∧ new.length * bytes ≤ 70368744177664 ∧
          ∀ id, s.h id = none → K { env := s.env.set d (.msl id 0 new.length), bx := s.bx, h := s.h.upd id (some (.arr sz new)) }) ∨
        (new = [] ∧ K { env := s.env.set d .nsl, bx := s.bx, h := s.h })
      | .msl id off len => match s.h id with
        | some (.arr sz2 els) => sz2 = sz ∧ off + len ≤ els.length ∧ (len + new.length) * bytes ≤ 70368744177664 ∧
          ∀ id2, s.h id2 = none → id2 ≠ id → K { env := s.env.set d (.msl id2 0 (len + new.length)), bx := s.bx, h := (s.h.upd id none).upd id2 (some (.arr sz ((els.drop off).take len ++ new))) }
        | _ => False
      | _ => False)
def onEls (o : Option (List (List V))) (K : List (List V) → Prop) : Prop :=
  match o with
  | some x => K x
  | none => False
theorem onEls_some (x : List (List V)) (K : List (List V) → Prop) : onEls (some x) K = K x := rfl
theorem app_0 (C : Call) (K : S → Prop) (s : S) (d : Nat) (x y : Opd) (sz bytes : Nat) : (AOp.app none d x y sz bytes).step C s K = onEls (elemsOf s.h (ev s.env y)) (appK d sz bytes K s (ev s.env x)) := by
  rw [step_plain _ _ _ _ rfl]
  simp only [AOp.run, onEls, appK]
  cases elemsOf s.h (ev s.env y) <;> rfl
theorem appK_nil {d sz bytes : Nat} {K : S → Prop} {e : List V} {b : List (Option (Nat × List V))} {h : Heap} {new : List (List V)} (h1 : ∀ z ∈ new, z.length = sz) (h2 : 0 < new.length) (h3 : new.length * bytes ≤ 70368744177664)
    (hK : ∀ id, h id = none → K ⟨e.set d (.msl id 0 new.length), b, h.upd id (some (.arr sz new))⟩) : appK d sz bytes K ⟨e, b, h⟩ .nsl new := ⟨h1, .inl ⟨h2, h3, hK⟩⟩
theorem appK_msl {d sz bytes : Nat} {K : S → Prop} {e : List V} {b : List (Option (Nat × List V))} {h : Heap} {new els : List (List V)} {id off len : Nat} (hh : h id = some (.arr sz els)) (h1 : ∀ z ∈ new, z.length = sz) (h2 : off + len ≤ els.length)
    (h3 : (len + new.length) * bytes ≤ 70368744177664)
    (hK : ∀ id2, h id2 = none → id2 ≠ id → K ⟨e.set d (.msl id2 0 (len + new.length)), b, (h.upd id none).upd id2 (some (.arr sz ((els.drop off).take len ++ new)))⟩) : appK d sz bytes K ⟨e, b, h⟩ (.msl id off len) new := by
  refine ⟨h1, ?_⟩
  simp only [hh]
  exact ⟨trivial, h2, h3, hK⟩
/-- Elements are copied. -/
def cpyK (d : Option Nat) (sz : Nat) (K : S → Prop) (s : S) (x y : V) : Prop := match x with
    | .msl id off len => match s.h id with
      | some (.arr sz2 els) => sz2 = sz ∧ off + len ≤ els.length ∧ (match elemsOf s.h y with
        | some new => (∀ z ∈ new, z.length = sz) ∧ K ({ s with h := s.h.upd id (some (.arr sz (els.take off ++ new.take len ++ els.drop (off + min new.length len)))) }.put d (.int .i64 (min new.length len : Nat)))
        | none => False)
      | _ => False
    | .nsl => match elemsOf s.h y with
      | some new => (∀ z ∈ new, z.length = sz) ∧ K (s.put d (.int .i64 0))
      | none => False
    | _ => False
theorem cpy_0 (C : Call) (K : S → Prop) (s : S) (d : Option Nat) (x y : Opd) (sz : Nat) : (AOp.cpy none d x y sz).step C s K = cpyK d sz K s (ev s.env x) (ev s.env y) := by
  rw [step_plain _ _ _ _ rfl]
  rfl
theorem cpyK_msl {d sz : Nat} {K : S → Prop} {e : List V} {b : List (Option (Nat × List V))} {h : Heap} {new els : List (List V)} {id off len : Nat} {y : V} (hh : h id = some (.arr sz els)) (hn : elemsOf h y = some new) (h1 : ∀ z ∈ new, z.length = sz) (h2 : off + len ≤ els.length)
    (hK : K ⟨e.set d (.int .i64 (min new.length len : Nat)), b, h.upd id (some (.arr sz (els.take off ++ new.take len ++ els.drop (off + min new.length len))))⟩) : cpyK (some d) sz K ⟨e, b, h⟩ (.msl id off len) y := by
  simp only [cpyK, hh, hn]
  exact ⟨trivial, h2, h1, hK⟩
/-- A new map. -/
def mkmK (d : Nat) (K : S → Prop) (s : S) : Prop := ∀ id, s.h id = none → K { s with env := s.env.set d (.map id), h := s.h.upd id (some (.map [])) }
theorem mkmK_eq (d : Nat) (K : S → Prop) (e : List V) (b : List (Option (Nat × List V))) (h : Heap) : mkmK d K ⟨e, b, h⟩ = (∀ id, h id = none → K ⟨e.set d (.map id), b, h.upd id (some (.map []))⟩) := rfl
theorem mkm_0 (C : Call) (K : S → Prop) (s : S) (d : Nat) : (AOp.mkm none d).step C s K = mkmK d K s := by
  rw [step_plain _ _ _ _ rfl]; rfl
/-- An entry of a map, to be written. -/
def menK (d ks : Nat) (zero : V) (K : S → Prop) (s : S) (m key : V) : Prop := match m with
    | .map id => match s.h id with
      | some (.map es) => keyIs ks key = true ∧ (match findKey key es with
        | some (some i) => match es[i]? with
          | some x => K { s with env := s.env.set d (.tup [x.2, .stamp id i]) }
          | none => False
        | some none => K { s with env := s.env.set d (.tup [zero, .stamp id es.length]), h := s.h.upd id (some (.map (es ++ [(key, zero)]))) }
        | none => False)
      | _ => False
    | _ => False
theorem men_0 (C : Call) (K : S → Prop) (s : S) (d ks : Nat) (m key : Opd) (zero : V) : (AOp.men none d ks m key zero).step C s K = menK d ks zero K s (ev s.env m) (ev s.env key) := by
  rw [step_plain _ _ _ _ rfl]; rfl
theorem menK_new {d ks : Nat} {zero key : V} {K : S → Prop} {e : List V} {b : List (Option (Nat × List V))} {h : Heap} {id : Nat} {es : List (V × V)} (hh : h id = some (.map es)) (hk : keyIs ks key = true) (hf : findKey key es = some none)
    (hK : K ⟨e.set d (.tup [zero, .stamp id es.length]), b, h.upd id (some (.map (es ++ [(key, zero)])))⟩) : menK d ks zero K ⟨e, b, h⟩ (.map id) key := by
  simp only [menK, hh, hf]
  exact ⟨hk, hK⟩
def mstK (K : S → Prop) (s : S) (m stp v : V) : Prop := match m, stp with
    | .map id, .stamp id2 i => id = id2 ∧ (match s.h id with
      | some (.map es) => match es[i]? with
        | some x => K { s with h := s.h.upd id (some (.map (es.set i (x.1, v)))) }
        | none => False
      | _ => False)
    | _, _ => False
theorem mst_0 (C : Call) (K : S → Prop) (s : S) (m st v : Opd) : (AOp.mst none m st v).step C s K = mstK K s (ev s.env m) (ev s.env st) (ev s.env v) := by
  rw [step_plain _ _ _ _ rfl]
  rfl
theorem mstK_at {v : V} {K : S → Prop} {e : List V} {b : List (Option (Nat × List V))} {h : Heap} {id i : Nat} {es : List (V × V)} {x : V × V} (hh : h id = some (.map es)) (hx : es[i]? = some x)
    (hK : K ⟨e, b, h.upd id (some (.map (es.set i (x.1, v))))⟩) : mstK K ⟨e, b, h⟩ (.map id) (.stamp id i) v := by
  simp only [mstK, hh, hx]
  exact ⟨trivial, hK⟩
theorem cellsOf_stamp (i k : Nat) : cellsOf (.stamp i k) = some [.stamp i k] := rfl
theorem upd_other (h : Heap) {i j : Nat} (b : Option Blk) (hn : j ≠ i) : (h.upd i b) j = h j := by simp [Heap.upd, hn]
theorem upd_upd (h : Heap) (i : Nat) (a b : Option Blk) : (h.upd i a).upd i b = h.upd i b := by
  funext j; simp only [Heap.upd]; split <;> rfl
theorem ne_of_some {h : Heap} {i j : Nat} {b : Blk} (h1 : h i = some b) (h2 : h j = none) : i ≠ j := by
  intro e; subst e; rw [h1] at h2; cases h2
theorem range_one : List.range 1 = [0] := rfl
theorem range_two : List.range 2 = [0, 1] := rfl
theorem rep_one (z : List V) : (List.replicate 1 z).flatten = z := by simp
theorem rep_two (z : List V) : (List.replicate 2 z).flatten = z ++ z := by simp [List.replicate]

/-- A callee, with what it captured. -/
def onFn (v : V) (K : Nat → List V → Prop) : Prop :=
  match v with
  | .fn k caps => K k caps
  | _ => False
theorem onFn_fn (k : Nat) (caps : List V) (K : Nat → List V → Prop) : onFn (.fn k caps) K = K k caps := rfl
def callvK (C : Call) (d : Option Nat) (as : List Opd) (K : S → Prop) (s : S) (k : Nat) (caps : List V) : Prop := callOk C k (as.map (ev s.env) ++ caps) s.h (retK d K s)
theorem callvK_eq (C : Call) (d : Option Nat) (as : List Opd) (K : S → Prop) (e : List V) (b : List (Option (Nat × List V))) (h : Heap) (k : Nat) (caps : List V) : callvK C d as K ⟨e, b, h⟩ k caps = callOk C k (as.map (ev e) ++ caps) h (retK d K ⟨e, b, h⟩) := rfl
theorem callv_0 (C : Call) (K : S → Prop) (s : S) (d : Option Nat) (f : Opd) (as : List Opd) : (AOp.callv none d f as).step C s K = onFn (ev s.env f) (callvK C d as K s) := by
  rw [step_plain _ _ _ _ rfl]
  simp only [AOp.run, onFn]
  cases ev s.env f <;> rfl

/-- A call of a function that only computes: by its contract. -/
theorem callOk_pure {A : Prog} {f : Nat} {vs : List V} {r : V} {h : Heap} {R : V → Heap → Prop} (hc : Ret A f vs Heap.none fun u _ => u = r) (hR : R r h) : callOk (Ret A) f vs h R :=
  .inr (.inl ⟨fun _ => False, vs, rfl, fun i a b h1 h2 => by rw [h1] at h2; injection h2 with h2; rw [h2]; exact .same _, Ret.mono _ _ _ _ _ (fun v _ e => ⟨.inl fun _ h => h, by rw [e]; exact hR⟩) hc⟩)
theorem callOk_of {A : Prog} {f : Nat} {vs : List V} {P : V → Prop} {h : Heap} {R : V → Heap → Prop} (hc : Ret A f vs Heap.none fun u _ => P u) (hR : ∀ u, P u → R u h) : callOk (Ret A) f vs h R :=
  .inr (.inl ⟨fun _ => False, vs, rfl, fun i a b h1 h2 => by rw [h1] at h2; injection h2 with h2; rw [h2]; exact .same _, Ret.mono _ _ _ _ _ (fun v _ e => ⟨.inl fun _ h => h, hR v e⟩) hc⟩)
theorem callPure_of {A : Prog} {f : Nat} {vs : List V} {P : V → Prop} {h : Heap} {R : V → Heap → Prop} (hc : Ret A f vs Heap.none fun u _ => P u) (hR : ∀ u, P u → R u h) : callPure (Ret A) f vs h R :=
  ⟨fun _ => False, vs, rfl, fun i a b h1 h2 => by rw [h1] at h2; injection h2 with h2; rw [h2]; exact .same _, Ret.mono _ _ _ _ _ (fun v _ e => ⟨.inl fun _ h => h, hR v e⟩) hc⟩
theorem callPure_pure {A : Prog} {f : Nat} {vs : List V} {r : V} {h : Heap} {R : V → Heap → Prop} (hc : Ret A f vs Heap.none fun u _ => u = r) (hR : R r h) : callPure (Ret A) f vs h R :=
  ⟨fun _ => False, vs, rfl, fun i a b h1 h2 => by rw [h1] at h2; injection h2 with h2; rw [h2]; exact .same _, Ret.mono _ _ _ _ _ (fun v _ e => ⟨.inl fun _ h => h, by rw [e]; exact hR⟩) hc⟩

/-- A slice of our own, frozen as it is. -/
theorem Frz.whole {h : Heap} {ids : Nat → Prop} {id sz n : Nat} {els : List (List V)} (hid : ids id) (hb : h id = some (.arr sz els)) (hn : els.length = n) : Frz h ids (.msl id 0 n) (.fsl sz els) := by
  subst hn
  exact .msl id 0 els.length sz els els hid hb (by omega) rfl (fun i x y h1 h2 => by rw [Nat.zero_add] at h1; rw [h1] at h2; injection h2 with h2; rw [h2])
    (fun i x y j a b h1 h2 h3 h4 => by rw [Nat.zero_add] at h1; rw [h1] at h2; injection h2 with h2; subst h2; rw [h3] at h4; injection h4 with h4; subst h4; exact .same _)

theorem upd_self (h : Heap) (i : Nat) (b : Option Blk) : (h.upd i b) i = b := by simp [Heap.upd]

/-- Arguments, one by one, frozen. -/
inductive FrzL (h : Heap) (ids : Nat → Prop) : List V → List V → Prop
  | nil : FrzL h ids [] []
  | cons {v u : V} {l k : List V} (h1 : Frz h ids v u) (h2 : FrzL h ids l k) : FrzL h ids (v :: l) (u :: k)
theorem FrzL.spec {h : Heap} {ids : Nat → Prop} {vs us : List V} (hf : FrzL h ids vs us) : us.length = vs.length ∧ ∀ (i : Nat) (a b : V), vs[i]? = some a → us[i]? = some b → Frz h ids a b := by
  induction hf with
  | nil => exact ⟨rfl, fun i a b h => by simp at h⟩
  | cons h1 _ ih =>
    refine ⟨by simp [ih.1], fun i a b ha hb => ?_⟩
    cases i with
    | zero => simp at ha hb; subst ha; subst hb; exact h1
    | succ i => exact ih.2 i a b (by simpa using ha) (by simpa using hb)

theorem Frz.aggL {h : Heap} {ids : Nat → Prop} {vs us : List V} (hf : FrzL h ids vs us) : Frz h ids (.agg vs) (.agg us) := .agg _ _ hf.spec.1.symm hf.spec.2

/-- A call of frozen arguments whose answer holds no address. -/
theorem callOk_frz {A : Prog} {f : Nat} {vs us : List V} {P : V → Prop} {h : Heap} {R : V → Heap → Prop} (ids : Nat → Prop) (hf : FrzL h ids vs us) (hc : Ret A f us Heap.none fun u _ => P u) (hR : ∀ u, P u → Flat u ∧ R u h) : callOk (Ret A) f vs h R :=
  .inr (.inl ⟨ids, us, hf.spec.1, hf.spec.2, Ret.mono _ _ _ _ _ (fun v _ e => ⟨.inr (hR v e).1, (hR v e).2⟩) hc⟩)

/-- A call behind which its arguments stay frozen. -/
theorem callOk_froze {A : Prog} {f : Nat} {vs us : List V} {P : V → Prop} {h : Heap} {R : V → Heap → Prop} (ids : Nat → Prop) (h2 : Heap) (hf : FrzL h ids vs us) (hle : h2.le h) (hids : ∀ i, ids i → h2 i = none) (hc : Ret A f us h2 R) : callOk (Ret A) f vs h R :=
  .inr (.inr ⟨ids, us, h2, hf.spec.1, hf.spec.2, hle, hids, hc⟩)
/-- The end of a function that only computes. -/
theorem post_ret {rs : List ARes} {R : V → Heap → Prop} {s : S} {v : V} (hv : resultOf rs s = some v) (hR : R v s.h) : post rs R .ret s := by
  show match resultOf rs s with | some v => _ | none => False
  rw [hv]
  exact ⟨fun _ => False, v, s.h, .same v, fun _ _ h => h, fun _ h => h.elim, hR⟩

theorem postC {t n : Nat} {agg : Bool} {R : V → Heap → Prop} {s : S} {v : V} (hv : loadOf s.bx s.h (ev s.env (.t t)) n agg = some v) (hR : R v s.h) : post [.cell t n agg] R .ret s :=
  post_ret (v := v) (by simp only [resultOf, mapM?, ARes.val, hv]) hR
/-- The end of a function: what it gives is frozen. -/
theorem post_frz {rs : List ARes} {R : V → Heap → Prop} {s : S} {v u : V} {h2 : Heap} (ids : Nat → Prop) (hv : resultOf rs s = some v) (hf : Frz s.h ids v u) (hle : h2.le s.h) (hids : ∀ i, ids i → h2 i = none) (hR : R u h2) : post rs R .ret s := by
  show match resultOf rs s with | some v => _ | none => False
  rw [hv]
  exact ⟨ids, u, h2, hf, hle, hids, hR⟩
theorem postCF {t n : Nat} {agg : Bool} {R : V → Heap → Prop} {s : S} {v u : V} {h2 : Heap} (ids : Nat → Prop) (hv : loadOf s.bx s.h (ev s.env (.t t)) n agg = some v) (hf : Frz s.h ids v u) (hle : h2.le s.h) (hids : ∀ i, ids i → h2 i = none) (hR : R u h2) : post [.cell t n agg] R .ret s :=
  post_frz ids (by simp only [resultOf, mapM?, ARes.val, hv]) hf hle hids hR

/-- Where ways meet: what holds there. -/
theorem W_join {A : Prog} {c : ACode} {Q : Out → S → Prop} {s : S} (J : S → Prop) (h1 : W (Ret A) c (fun o s2 => o = .normal ∧ J s2) s) (h2 : ∀ s2, J s2 → Q .normal s2) : W (Ret A) c Q s :=
  W_mono Ret.mono c s (fun o s2 ⟨e, hj⟩ => by subst e; exact h2 s2 hj) h1
/-- What holds at an end of such a part. -/
def Met (J : S → Prop) (o : Out) (s : S) : Prop := o = .normal ∧ J s
theorem Met_normal (J : S → Prop) (s : S) : Met J .normal s = J s := by simp [Met]
theorem W_meet {A : Prog} {c : ACode} {Q : Out → S → Prop} {s : S} (J : S → Prop) (h1 : W (Ret A) c (Met J) s) (h2 : ∀ s2, J s2 → Q .normal s2) : W (Ret A) c Q s :=
  W_mono Ret.mono c s (fun o s2 ⟨e, hj⟩ => by subst e; exact h2 s2 hj) h1

/-- A loop, by what holds at its head, and by what falls. -/
theorem Loop.rec {α : Type} {A : Prog} {live boxes : List Nat} {x : ACode} {Q : Out → S → Prop} (m : α → Nat) (st : α → S) (p : α → Prop)
    (hs : ∀ a, p a → (∀ b, m b < m a → p b → Loop (Ret A) live boxes x Q (st b)) → W (Ret A) x (Again (Ret A) live boxes x Q) (st a))
    (a : α) (ha : p a) {s : S} (he : s = st a) : Loop (Ret A) live boxes x Q s := by
  subst he
  have : ∀ n a, m a = n → p a → Loop (Ret A) live boxes x Q (st a) := by
    intro n
    induction n using Nat.strongRecOn with
    | ind n ih =>
      intro a hn hp
      subst hn
      exact Loop.step (hs a hp fun b hb hpb => ih _ hb b rfl hpb)
  exact this _ a rfl ha

theorem cellsOf_agg (cs : List V) : cellsOf (.agg cs) = some cs := rfl
theorem cellsOf_int (k : IntKind) (n : Int) : cellsOf (.int k n) = some [.int k n] := rfl
theorem cellsOf_bool (b : Bool) : cellsOf (.bool b) = some [.bool b] := rfl
theorem cellsOf_str (b : ByteArray) : cellsOf (.str b) = some [.str b] := rfl
theorem cellsOf_nsl : cellsOf .nsl = some [.nsl] := rfl
theorem cellsOf_fsl (n : Nat) (l : List (List V)) : cellsOf (.fsl n l) = some [.fsl n l] := rfl
theorem cellsOf_msl (i o n : Nat) : cellsOf (.msl i o n) = some [.msl i o n] := rfl
theorem cellsOf_lp (t g o : Nat) : cellsOf (.lp t g o) = some [.lp t g o] := rfl
theorem cellsOf_ep (t g o : Nat) : cellsOf (.ep t g o) = some [.ep t g o] := rfl
theorem cellsOf_map (i : Nat) : cellsOf (.map i) = some [.map i] := rfl
theorem cellsOf_fn (i : Nat) (l : List V) : cellsOf (.fn i l) = some [.fn i l] := rfl

/-- One more. -/
theorem wrap_succ {k : Nat} (h : k < 9223372036854775807) : IntKind.i64.wrap ((k : Int) + 1) = ((k + 1 : Nat) : Int) := by
  rw [IntWalk.i64_in _ ⟨by omega, by omega⟩]; omega
theorem wrap_nat {k : Nat} (h : k < 9223372036854775808) : IntKind.i64.wrap (k : Int) = (k : Int) := IntWalk.i64_in _ ⟨by omega, by omega⟩
theorem wrap_pred {k : Nat} (h : k < 9223372036854775807) : IntKind.i64.wrap (((k + 1 : Nat) : Int) - 1) = (k : Int) := by
  rw [IntWalk.i64_in _ ⟨by omega, by omega⟩]; omega
theorem wrap_in {n : Int} (h : -9223372036854775808 ≤ n ∧ n ≤ 9223372036854775807) : IntKind.i64.wrap n = n := IntWalk.i64_in n h
theorem dec_true (i : Decidable True) : @decide True i = true := by
  cases i with
  | isTrue _ => rfl
  | isFalse h => exact (h trivial).elim
theorem dec_false (i : Decidable False) : @decide False i = false := by
  cases i with
  | isTrue h => exact h.elim
  | isFalse _ => rfl
theorem nat_le (k : Nat) : (0 ≤ (k : Int)) = True := by simp
theorem iaf_at (els : List (List V)) (k : Nat) (sz : Nat) : (if 0 ≤ (k : Int) ∧ sz = sz then (els[(k : Int).toNat]?).map (fun cs => V.fp cs 0) else none) = (els[k]?).map fun cs => V.fp cs 0 := by simp
theorem post1 {k : Nat} {R : V → Heap → Prop} {s : S} (hR : R (ev s.env (.t k)) s.h) : post [.tmp k] R .ret s := post_ret (v := ev s.env (.t k)) rfl hR
theorem post2 {k m : Nat} {R : V → Heap → Prop} {s : S} (hR : R (.tup [ev s.env (.t k), ev s.env (.t m)]) s.h) : post [.tmp k, .tmp m] R .ret s := post_ret (v := .tup [ev s.env (.t k), ev s.env (.t m)]) rfl hR

/-- A function's text, step by step. -/
theorem Ret.by_text {A : Prog} {f : Nat} {fn : AFn} {vs : List V} {h : Heap} {R : V → Heap → Prop} (hf : A f = some fn) (hn : Nat.ble vs.length fn.ntmps = true)
    (hb : W (Ret A) fn.body (post fn.results R) ⟨E fn.ntmps (number 0 vs), B fn.ntmps [], h⟩) : Ret A f vs h R :=
  Ret.intro hf (Nat.le_of_ble_eq_true hn) (by rw [start_E _ _ _ (Nat.le_of_ble_eq_true hn)]; exact hb)

end Go.Abs
