/-
  Maps: finding a key.
-/
import Derived.Test.YtfgkfjmbjopfgaaAbsVal
set_option linter.unusedVariables false
set_option linter.unusedSimpArgs false
namespace Go.Abs
open Go

/-- A key, as the model holds it. -/
def keyVal : V → Value
  | .int k n => .int k n
  | .str s => .string s
  | .agg [.int k a, .int k2 b] => .agg #[.int k a, .int k2 b]
  | _ => Go.undef

theorem keyVal_of {rd : Reads} {m : Maps} {ks : Nat} {v : V} {u : Value} (hk : keyIs ks v = true) (hv : VR rd m v u) : u = keyVal v := by
  unfold keyIs at hk
  split at hk
  · cases hv; rfl
  · cases hv; rfl
  · rename_i k a k2 b
    cases hv with
    | agg _ us hl h1 hf =>
      obtain ⟨l⟩ := us
      match l, hl with
      | [u1, u2], _ =>
        have e1 := hf 0 _ u1 rfl rfl
        have e2 := hf 1 _ u2 rfl rfl
        cases e1; cases e2; rfl
  · cases hk

variable {P : Program} {w : World}

theorem part_run {t : TypeId} {us : Array Value} {i : Nat} {u : Value} (ht : tyOk P t 1 false = true) (hu : us[i]? = some u) : (part t us i).run P w = .ok u w := by
  simp only [tyOk, Bool.and_eq_true, beq_iff_eq] at ht
  simp [part, run_isAggB ht.1.1, hu]

theorem keyIs_same {ks : Nat} {k k2 : V} {b : Bool} (hk : keyIs ks k = true) (he : keyEq k k2 = some b) : keyIs ks k2 = true := by
  unfold keyEq at he
  split at he
  · unfold keyIs at hk ⊢; split at hk <;> simp_all
  · unfold keyIs at hk ⊢; split at hk <;> simp_all
  · unfold keyIs at hk ⊢; split at hk <;> simp_all
  · cases he

theorem checkKey_run {t : TypeId} {ks : Nat} {k : V} {empty : Bool} (ht : keyOk P t ks = true) (hk : keyIs ks k = true) (n : Nat) : (Instr.checkKey empty (n + 2) t (keyVal k)).run P w = .ok () w := by
  obtain ⟨d, hd, hm⟩ := undB_some ht
  unfold keyIs at hk
  split at hk
  · cases d <;> simp at hm
    simp [Instr.checkKey, run_und hd, keyVal]
  · cases d <;> simp at hm
    simp [Instr.checkKey, run_und hd, keyVal]
  · rename_i k1 a k2 b
    cases d <;> simp at hm
    rename_i n2 e
    obtain ⟨⟨rfl, he⟩, hu⟩ := hm
    obtain ⟨d2, hd2, hm2⟩ := undB_some hu
    cases d2 <;> simp at hm2
    have hs : sizeB P e = some 1 := by simp only [tyOk, Bool.and_eq_true, beq_iff_eq] at he; exact he.1.2
    simp only [keyVal]
    unfold Instr.checkKey
    have p0 : (part e #[Value.int k1 a, Value.int k2 b] 0).run P w = .ok (.int k1 a) w := part_run he rfl
    have p1 : (part e #[Value.int k1 a, Value.int k2 b] 1).run P w = .ok (.int k2 b) w := part_run he rfl
    have c : ∀ (n : Nat) (k : IntKind) (x : Int), (Instr.checkKey empty (n + 1) e (.int k x)).run P w = .ok () w := by
      intro n k x; simp [Instr.checkKey, run_und hd2]
    simp [run_und hd, run_sizeB hs, p0, p1, c, Std.Legacy.Range.forIn_eq_forIn_range', Std.Legacy.Range.size, List.range']
  · cases hk

theorem equal_run {t : TypeId} {ks : Nat} {k k2 : V} {b : Bool} (ht : keyOk P t ks = true) (hk : keyIs ks k = true) (he : keyEq k k2 = some b) (n : Nat) : (Op.equalIn (n + 2) t (keyVal k) (keyVal k2)).run P w = .ok b w := by
  obtain ⟨d, hd, hm⟩ := undB_some ht
  unfold keyEq at he
  split at he
  · split at he
    · rename_i hkk
      subst hkk
      unfold keyIs at hk; split at hk <;> simp at *
      cases d <;> simp at hm
      simp [Op.equalIn, run_und hd, keyVal, he]
    · cases he
  · rename_i s1 s2
    unfold keyIs at hk; split at hk <;> simp at *
    cases d <;> simp at hm
    simp [Op.equalIn, run_und hd, keyVal, he]
  · rename_i k1 a k2 b k3 c k4 d2
    split at he
    · rename_i hkk
      obtain ⟨rfl, rfl⟩ := hkk
      unfold keyIs at hk; split at hk <;> simp at *
      cases d <;> simp at hm
      rename_i n2 e
      obtain ⟨⟨rfl, hte⟩, hu⟩ := hm
      obtain ⟨d3, hd3, hm3⟩ := undB_some hu
      cases d3 <;> simp at hm3
      have hs : sizeB P e = some 1 := by simp only [tyOk, Bool.and_eq_true, beq_iff_eq] at hte; exact hte.1.2
      have p0 : (part e #[Value.int k1 a, Value.int k2 b] 0).run P w = .ok (.int k1 a) w := part_run hte rfl
      have p1 : (part e #[Value.int k1 a, Value.int k2 b] 1).run P w = .ok (.int k2 b) w := part_run hte rfl
      have q0 : (part e #[Value.int k1 c, Value.int k2 d2] 0).run P w = .ok (.int k1 c) w := part_run hte rfl
      have q1 : (part e #[Value.int k1 c, Value.int k2 d2] 1).run P w = .ok (.int k2 d2) w := part_run hte rfl
      have c0 : ∀ (n : Nat) (k : IntKind) (x y : Int), (Op.equalIn (n + 1) e (.int k x) (.int k y)).run P w = .ok (x == y) w := by
        intro n k x y; simp [Op.equalIn, run_und hd3]
      simp only [keyVal]
      unfold Op.equalIn
      subst he
      simp only [Sem.run_bind, run_und hd, Result.andThen_ok, run_sizeB hs, Std.Legacy.Range.forIn_eq_forIn_range', Std.Legacy.Range.size, Nat.sub_zero, Nat.add_sub_cancel, Nat.div_one, List.range'_succ, List.range'_zero, List.forIn_cons, List.forIn_nil, Nat.zero_mul, Nat.zero_add, Nat.one_mul, p0, q0, c0]
      cases hac : (a == c) <;> cases hbd : (b == d2) <;> simp [p1, q1, c0, hbd]
    · cases he
  · cases he

theorem sameNow_run {d : TypeDesc} {k k2 : V} {b : Bool} (he : keyEq k k2 = some b) (hd : (∃ kk, d = .int kk) ∧ (∃ k1 a, k = .int k1 a) ∨ d = .string ∧ ∃ s, k = .str s) : Instr.sameNow d (keyVal k) (keyVal k2) = some b := by
  unfold keyEq at he
  split at he
  · split at he
    · rename_i hkk; subst hkk
      rcases hd with ⟨⟨kk, rfl⟩, _⟩ | ⟨_, s, hs⟩
      · simpa [keyVal, Instr.sameNow] using he
      · cases hs
    · cases he
  · rcases hd with ⟨_, _, _, hs⟩ | ⟨rfl, _⟩
    · cases hs
    · simpa [keyVal, Instr.sameNow] using he
  · rcases hd with ⟨_, _, _, hs⟩ | ⟨_, _, hs⟩ <;> cases hs
  · cases he

/-- The entries, as the model holds them. -/
def EntsOf (es : List (V × V)) (ents : List MapEntry) : Prop := ents.length = es.length ∧ ∀ (i : Nat) (e : V × V) (x : MapEntry), es[i]? = some e → ents[i]? = some x → ∀ ks, keyIs ks e.1 = true → x.key = keyVal e.1

/-- What is found. -/
def Found (ents : List MapEntry) (o : Nat) (q : Option (Nat × Value)) : Option Nat → Prop
  | none => q = none
  | some i => ∃ x, ents[i]? = some x ∧ q = some (i + o, x.val)

theorem findNow_run {d : TypeDesc} {ks : Nat} {k : V} (hk : keyIs ks k = true) (hd : (∃ kk, d = .int kk) ∧ (∃ k1 a, k = .int k1 a) ∨ d = .string ∧ ∃ s, k = .str s) : ∀ (es : List (V × V)) (ents : List MapEntry) (o : Nat) (r : Option Nat), EntsOf es ents → findKey k es = some r →
    ∃ q, Instr.findNow d (keyVal k) ents o = some q ∧ Found ents o q r
  | [], ents, o, r, he, hf => by
    have : ents = [] := List.eq_nil_of_length_eq_zero he.1
    subst this
    simp [findKey] at hf; subst hf
    exact ⟨none, rfl, rfl⟩
  | e :: es, [], _, _, he, _ => by cases he.1
  | e :: es, x :: ents, o, r, he, hf => by
    have he2 : EntsOf es ents := ⟨by simpa using he.1, fun i e x a b => he.2 (i + 1) e x a b⟩
    simp only [findKey] at hf
    have hx : ∀ b, keyEq k e.1 = some b → x.key = keyVal e.1 := fun b hb => he.2 0 e x rfl rfl ks (keyIs_same hk hb)
    cases hq : keyEq k e.1 with
    | none => rw [hq] at hf; cases hf
    | some b =>
      rw [hq] at hf
      have hs := sameNow_run hq hd
      cases b with
      | true =>
        simp at hf; subst hf
        refine ⟨some (o, x.val), by simp only [Instr.findNow, hx _ hq, hs], x, rfl, by simp⟩
      | false =>
        simp only [Option.map_eq_some_iff] at hf
        obtain ⟨r2, h2, rfl⟩ := hf
        obtain ⟨q, e1, e2⟩ := findNow_run hk hd es ents (o + 1) r2 he2 h2
        refine ⟨q, by simp only [Instr.findNow, hx _ hq, hs, e1], ?_⟩
        cases r2 with
        | none => exact e2
        | some i => obtain ⟨y, h3, h4⟩ := e2; exact ⟨y, by simpa using h3, by rw [h4]; simp; omega⟩

theorem findAsking_run {t : TypeId} {ks : Nat} {k : V} (ht : keyOk P t ks = true) (hk : keyIs ks k = true) : ∀ (es : List (V × V)) (ents : List MapEntry) (o : Nat) (r : Option Nat), EntsOf es ents → findKey k es = some r →
    ∃ q, (Instr.findAsking t (keyVal k) ents o).run P w = .ok q w ∧ Found ents o q r
  | [], ents, o, r, he, hf => by
    have : ents = [] := List.eq_nil_of_length_eq_zero he.1
    subst this
    simp [findKey] at hf; subst hf
    exact ⟨none, by simp [Instr.findAsking], rfl⟩
  | e :: es, [], _, _, he, _ => by cases he.1
  | e :: es, x :: ents, o, r, he, hf => by
    have he2 : EntsOf es ents := ⟨by simpa using he.1, fun i e x a b => he.2 (i + 1) e x a b⟩
    simp only [findKey] at hf
    have hx : ∀ b, keyEq k e.1 = some b → x.key = keyVal e.1 := fun b hb => he.2 0 e x rfl rfl ks (keyIs_same hk hb)
    cases hq : keyEq k e.1 with
    | none => rw [hq] at hf; cases hf
    | some b =>
      rw [hq] at hf
      have hs : (Op.equal t (keyVal k) (keyVal e.1)).run P w = .ok b w := equal_run ht hk hq 9998
      cases b with
      | true =>
        simp at hf; subst hf
        exact ⟨some (o, x.val), by simp [Instr.findAsking, hx _ hq, hs], x, rfl, by simp⟩
      | false =>
        simp only [Option.map_eq_some_iff] at hf
        obtain ⟨r2, h2, rfl⟩ := hf
        obtain ⟨q, e1, e2⟩ := findAsking_run ht hk es ents (o + 1) r2 he2 h2
        refine ⟨q, by simp [Instr.findAsking, hx _ hq, hs, e1], ?_⟩
        cases r2 with
        | none => exact e2
        | some i => obtain ⟨y, h3, h4⟩ := e2; exact ⟨y, by simpa using h3, by rw [h4]; simp; omega⟩

theorem findKey_run {t : TypeId} {ks : Nat} {k : V} (ht : keyOk P t ks = true) (hk : keyIs ks k = true) {es : List (V × V)} {ents : List MapEntry} {r : Option Nat} (he : EntsOf es ents) (hf : findKey k es = some r) :
    ∃ q, (Instr.findKey t (keyVal k) ents).run P w = .ok q w ∧ Found ents 0 q r := by
  obtain ⟨d, hd, hm⟩ := undB_some ht
  unfold keyIs at hk
  split at hk
  · cases d <;> simp at hm
    rename_i kk
    obtain ⟨q, e1, e2⟩ := findNow_run (d := .int kk) (ks := 0) rfl (.inl ⟨⟨_, rfl⟩, _, _, rfl⟩) es ents 0 r he hf
    exact ⟨q, by simp [Instr.findKey, run_und hd, e1], e2⟩
  · cases d <;> simp at hm
    obtain ⟨q, e1, e2⟩ := findNow_run (ks := 1) rfl (.inr ⟨rfl, _, rfl⟩) es ents 0 r he hf
    exact ⟨q, by simp [Instr.findKey, run_und hd, e1], e2⟩
  · rename_i k1 a k2 b
    cases d <;> simp at hm
    obtain ⟨q, e1, e2⟩ := findAsking_run (P := P) (w := w) (ks := 2) ht (k := .agg [.int k1 a, .int k2 b]) rfl es ents 0 r he hf
    cases ents with
    | nil =>
      have hes : es = [] := List.eq_nil_of_length_eq_zero he.1.symm
      subst hes
      simp [findKey] at hf; subst hf
      exact ⟨none, by simp [Instr.findKey, run_und hd, Instr.findNow], rfl⟩
    | cons x ents =>
      refine ⟨q, ?_, e2⟩
      have hn : ∀ d n, Instr.findNow (.array d n) (keyVal (.agg [.int k1 a, .int k2 b])) (x :: ents) 0 = none := by
        intro d n
        simp [Instr.findNow, Instr.sameNow, keyVal]
      simp [Instr.findKey, run_und hd, hn, e1]
  · cases hk

theorem map_inv {rd : Reads} {m : Maps} {id : Nat} {u : Value} (h : VR rd m (.map id) u) : ∃ b r, m.sg id = some (b, r) ∧ u = .map (some b) := by
  cases h with
  | map _ b o sz C hs => exact ⟨b, _, hs, rfl⟩

theorem ents_of {rd : Reads} {m : Maps} {id b : Nat} {es : List (V × V)} {ents : Array MapEntry} (hl : ents.size = es.length)
    (h : ∀ (i : Nat) (e : V × V) (x : MapEntry), es[i]? = some e → ents[i]? = some x → VR rd m e.1 x.key ∧ VR rd m e.2 x.val ∧ m.bo id i = some x.born ∧ x.born < b) : EntsOf es ents.toList :=
  ⟨by simpa using hl, fun i e x h1 h2 ks hk => keyVal_of hk (h i e x h1 (by simpa using h2)).1⟩

theorem mapOk_some {t : TypeId} {ks : Nat} {z : V} (h : mapOk P t ks z = true) : ∃ kt et u, P.underlying t = some (.map kt et) ∧ keyOk P kt ks = true ∧ (zeroValue et).run P w = .ok u w ∧ ∀ rd m, VR rd m z u ∧ u.oneCell' = true := by
  obtain ⟨d, hd, hm⟩ := undB_some h
  cases d <;> simp at hm
  rename_i kt et
  refine ⟨kt, et, ?_⟩
  have hz := hm.2
  unfold zero1Ok at hz
  split at hz
  · rename_i i hi
    split at hz
    · rename_i u hu
      exact ⟨u, hd, hm.1, by simp [zeroValue, typeInfo, hi, hu], fun rd m => constCell_ok hz⟩
    · cases hz
  · cases hz

def picked (es : List (V × V)) (z : V) : Option Nat → Option V
  | some i => (es[i]?).map (·.2)
  | none => some z

/-- Reading a map. -/
theorem lookup_run {own : Nat → Prop} {m : Maps} {h : Heap} (hr : HRel own m h w) {t : TypeId} {ks : Nat} {z k : V} {uk um : Value} {id : Nat} {es : List (V × V)} {r : Option Nat} (hm : mapOk P t ks z = true)
    (hvm : VR (Rd own w) m (.map id) um) (hvk : VR (Rd own w) m k uk) (hh : h id = some (.map es)) (hk : keyIs ks k = true) (hf : findKey k es = some r) :
    ∃ u, (∀ ok, (Instr.lookup t um uk ok).run P w = .ok (if ok then .tuple #[u, .bool r.isSome] else u) w) ∧ (∀ v, picked es z r = some v → VR (Rd own w) m v u) := by
  obtain ⟨b, r0, h1, rfl⟩ := map_inv hvm
  obtain ⟨b2, r2, h2, _, ents, clock, hw, hl, he, _⟩ := hr.map id es hh
  rw [h1] at h2; simp at h2; obtain ⟨rfl, _⟩ := h2
  obtain ⟨kt, et, uz, hd, hko, hz, hvz⟩ := mapOk_some (w := w) hm
  have hkv := keyVal_of hk hvk
  subst hkv
  have hc : (Instr.checkKey ents.isEmpty 10000 kt (keyVal k)).run P w = .ok () w := checkKey_run hko hk 9998
  obtain ⟨q, hq, hfd⟩ := findKey_run (P := P) (w := w) hko hk (ents_of (b := clock) hl he) hf
  have hg : (getObj b).run P w = .ok (.map ents clock) w := by simp [getObj, Sem.run, hw]
  cases r with
  | none =>
    simp only [Found] at hfd; subst hfd
    refine ⟨uz, fun ok => ?_, fun v hv => ?_⟩
    · simp [Instr.lookup, run_und hd, hg, hc, hq, hz]
    · simp [picked] at hv; subst hv; exact (hvz _ _).1
  | some i =>
    obtain ⟨x, hx, rfl⟩ := hfd
    refine ⟨x.val, fun ok => ?_, fun v hv => ?_⟩
    · simp [Instr.lookup, run_und hd, hg, hc, hq]
    · simp only [picked, Option.map_eq_some_iff] at hv
      obtain ⟨e, h3, rfl⟩ := hv
      exact (he i e x h3 (by simpa using hx)).2.1

end Go.Abs
