/-
  Slices: 'make', literals, 'copy'; boxes.
-/
import Derived.Test.YtfgkfjmbjopfgaaAbsEff2
import Derived.IntWalk
set_option linter.unusedVariables false
set_option linter.unusedSimpArgs false
namespace Go.Abs
open Go

theorem flatten_replicate_get (l : List V) : ∀ (n p : Nat), p < n * l.length → ((List.replicate n l).flatten)[p]? = l[p % l.length]?
  | 0, p, h => by simp at h
  | n + 1, p, h => by
    rw [List.replicate_succ, List.flatten_cons]
    rw [List.getElem?_append]
    split
    · rename_i hp; rw [Nat.mod_eq_of_lt hp]
    · rename_i hp
      rw [Nat.add_mul, Nat.one_mul] at h
      rw [flatten_replicate_get l n (p - l.length) (by omega)]
      congr 1; exact (Nat.mod_eq_sub_mod (by omega)).symm

theorem flatten_replicate_length (l : List V) (n : Nat) : ((List.replicate n l).flatten).length = n * l.length := by
  induction n with
  | zero => simp
  | succ n ih => rw [List.replicate_succ, List.flatten_cons, List.length_append, ih, Nat.add_mul, Nat.one_mul, Nat.add_comm]

/-- Zero cells, over and over. -/
theorem zeros_get {z : Value} {zero : List V} {n : Nat} (hz : z.cells.size = zero.length) (h0 : zero.length ≠ 0) (p : Nat) (hp : p < n) :
    ((Array.range n).map (fun i => z.cells[i % z.cells.size]!))[p]? = z.cells[p % zero.length]? := by
  have hlt : p % zero.length < z.cells.size := by rw [hz]; exact Nat.mod_lt _ (by omega)
  simp [hp, hz, Array.getElem!_eq_getD, Array.getD_eq_getD_getElem?]
  rw [Array.getElem?_eq_getElem hlt]; rfl

theorem makeSlice_run {P : Program} {w : World} {t e sz bytes : Nat} {z : Value} {a b : Int} {k1 k2 : IntKind} (hu : P.underlying t = some (.slice e)) (hs : sizeB P e = some sz) {inf : TypeInfo} (hi : P.info? e = some inf) (hb : inf.bytes = bytes) (hz : inf.zero = some z)
    (h0 : 0 ≤ a) (hab : a ≤ b) (hbb : b * bytes ≤ 140737488355328) (h63 : b < 9223372036854775808) (hne : b.toNat * sz ≠ 0) :
    (Instr.makeSlice t (.int k1 a) (.int k2 b)).run P w =
      .ok (.slice (some ⟨w.heap.size, 0, none⟩) a.toNat b.toNat) (push w (.cells ((Array.range (b.toNat * sz)).map (fun i => z.cells[i % z.cells.size]!)) e)) := by
  have e1 : IntKind.i64.wrap a = a := IntWalk.i64_in _ (by omega)
  have e2 : IntKind.i64.wrap b = b := IntWalk.i64_in _ (by omega)
  have hbb2 : ¬ ((bytes : Int) * b > 281474976710656) := by rw [Int.mul_comm]; omega
  have hti : (typeInfo e).run P w = .ok inf w := by simp [typeInfo, hi]
  have hzv : ∀ w : World, (zeroValue e).run P w = .ok z w := fun w => by simp [zeroValue, typeInfo, hi, hz]
  have hb0 : ¬ b < 0 := by omega
  have ha0 : ¬ a < 0 := by omega
  have hab2 : ¬ a > b := by omega
  have hs2 : ∀ w : World, (sizeOf e).run P w = .ok sz w := fun w => run_sizeB hs
  unfold Instr.makeSlice
  simp only [asInt, asIntOf, Sem.run_bind, run_und hu, Result.andThen_ok, Sem.run_pure, hti, e1, e2, hb]
  have hbig : (2 : Int) ^ 48 = 281474976710656 := by decide
  simp only [hbig, hb0, hbb2, ha0, hab2, decide_false, Bool.or_false, Bool.false_eq_true, if_false]
  simp [hs2, hne, hzv, newRow, push]

theorem mks_ok {P : Program} {cx : Cx} {own : Nat → Prop} {m : Maps} {s : S} {tmps : Array Value} {w : World} (hr : Rel cx own m s tmps w) {t e sz bytes : Nat} {zero : List V} {a b : Int} {k1 k2 : IntKind}
    (hu : P.underlying t = some (.slice e)) (he : elemOk P e sz bytes = true) (hz : zeroOk P e zero = true) (h0 : 0 ≤ a) (hab : a ≤ b) (hbb : b * bytes ≤ 140737488355328) (h63 : b < 9223372036854775808) :
    ∃ own2 m2 id u w2, s.h id = none ∧ (Instr.makeSlice t (.int k1 a) (.int k2 b)).run P w = .ok u w2 ∧
      Rel cx own2 m2 { s with h := s.h.upd id (some (.arr sz (List.replicate a.toNat zero))) } tmps w2 ∧ VR (Rd own2 w2) m2 (.msl id 0 a.toNat) u := by
  obtain ⟨inf, z, hinf, his, hib, hs0, hzi, hzs⟩ := elemOk_some he
  obtain ⟨z2, hzr, hzl, hzc⟩ := zero_run (P := P) (w := w) hz (rd := Rd own w) (m := m)
  have hzz : z2 = z := by
    have : (zeroValue e).run P w = .ok z w := by simp [zeroValue, typeInfo, hinf, hzi]
    rw [this] at hzr; injection hzr with h1 h2; exact h1.symm
  subst hzz
  have hzlen : zero.length = sz := by rw [← hzl, hzs]
  by_cases hne : b.toNat * sz = 0
  · -- nothing is made: an empty row
    have hb0 : b = 0 := by
      rcases Nat.mul_eq_zero.1 hne with h | h
      · omega
      · exact absurd h hs0
    subst hb0
    have ha0 : a = 0 := by omega
    subst ha0
    obtain ⟨own2, m2, id, e1, _, e3, e4, e5, e6⟩ := hr.newBlk s.h (fun _ _ h => h) (.cells #[] e) sz 0 (.arr sz [])
      (fun own2 m2 id hrd hm _ _ => ⟨rfl, #[], e, push_get _ _, by simp, by simp, by simp, by simp⟩) []
    refine ⟨own2, m2, id, .slice (some ⟨w.heap.size, 0, none⟩) 0 0, _, e1, ?_, e6, .msl _ _ _ w.heap.size 0 sz 0 _ _ e3 (.inl ⟨rfl, rfl⟩)⟩
    have e0 : IntKind.i64.wrap 0 = 0 := by decide
    have hs2 : ∀ w : World, (sizeOf e).run P w = .ok sz w := fun w => run_sizeB (by simp [sizeB, hinf, his])
    simp [Instr.makeSlice, run_und hu, asInt, asIntOf, e0, typeInfo, hinf, hs2, newRow, push]
    congr 2
    apply Array.ext'; simp
  · have hlen : ((Array.range (b.toNat * sz)).map (fun i => z2.cells[i % z2.cells.size]!)).size = b.toNat * sz := by simp
    obtain ⟨own2, m2, id, e1, _, e3, e4, e5, e6⟩ := hr.newBlk s.h (fun _ _ h => h) (.cells ((Array.range (b.toNat * sz)).map (fun i => z2.cells[i % z2.cells.size]!)) e) sz b.toNat (.arr sz (List.replicate a.toNat zero))
      (fun own2 m2 id hrd hm _ _ => by
        refine ⟨rfl, _, e, push_get _ _, by rw [hlen]; omega, by simp; omega, ?_, ?_⟩
        · intro i x hx
          have := List.eq_of_mem_replicate (List.mem_of_getElem? hx)
          rw [this, hzlen]
        · intro i x j c hx hj
          have hx2 := List.eq_of_mem_replicate (List.mem_of_getElem? hx)
          subst hx2
          have hi : i < a.toNat := by have := (List.getElem?_eq_some_iff.1 hx).1; simpa using this
          have hjl : j < sz := by rw [← hzlen]; exact (List.getElem?_eq_some_iff.1 hj).1
          have hp : i * sz + j < b.toNat * sz := by
            have : (i + 1) * sz ≤ b.toNat * sz := Nat.mul_le_mul_right _ (by omega)
            rw [Nat.add_mul, Nat.one_mul] at this; omega
          have hjz : j < z2.cells.size := by omega
          refine ⟨z2.cells[j], ?_, (hzc j c _ hj (Array.getElem?_eq_getElem hjz)).mono hrd hm⟩
          rw [Nat.zero_add, zeros_get hzl (by omega) _ hp, hzlen]
          rw [show (i * sz + j) % sz = j by rw [Nat.mul_comm, Nat.mul_add_mod]; exact Nat.mod_eq_of_lt hjl]
          exact Array.getElem?_eq_getElem hjz) []
    refine ⟨own2, m2, id, _, _, e1, makeSlice_run hu (by simp [sizeB, hinf, his]) hinf hib hzi h0 hab hbb h63 hne, e6, ?_⟩
    exact .msl _ _ _ w.heap.size 0 sz b.toNat _ _ e3 (.inr ⟨by simp, by omega, by omega⟩)

/-- The parts of a slice's literal. -/
def partsS (sz : Nat) : List (Nat × Nat × Opd) → List (Nat × Operand) → Bool
  | [], [] => true
  | (off, n, x) :: l, (i, y) :: r => chkOpd x y && off == i * sz && n == sz && partsS sz l r
  | _, _ => false

theorem partsS_get {sz : Nat} : ∀ {ps : List (Nat × Nat × Opd)} {qs : List (Nat × Operand)}, partsS sz ps qs = true → ps.length = qs.length ∧
    ∀ (i off n : Nat) (x : Opd) (j : Nat) (y : Operand), ps[i]? = some (off, n, x) → qs[i]? = some (j, y) → chkOpd x y = true ∧ some (j * sz, sz) = some (off, n)
  | [], [], _ => ⟨rfl, by simp⟩
  | (off, n, x) :: ps, (j, y) :: qs, h => by
    simp only [partsS, Bool.and_eq_true, beq_iff_eq] at h
    obtain ⟨⟨⟨h1, rfl⟩, rfl⟩, h4⟩ := h
    obtain ⟨hl, hr⟩ := partsS_get h4
    refine ⟨by simp [hl], ?_⟩
    intro i off' n' x' j' y' e1 e2
    cases i with
    | zero => simp at e1 e2; obtain ⟨rfl, rfl, rfl⟩ := e1; obtain ⟨rfl, rfl⟩ := e2; exact ⟨h1, rfl⟩
    | succ i => exact hr i off' n' x' j' y' (by simpa using e1) (by simpa using e2)
  | [], _ :: _, h => by simp [partsS] at h
  | _ :: _, [], h => by simp [partsS] at h

theorem bsl_ok {P : Program} {cx : Cx} {own : Nat → Prop} {m : Maps} {s : S} {a : Act} {w : World} (hr : Rel cx own m s a.tmps w) {t e sz len : Nat} {zero : List V} {parts : List (Nat × Nat × Opd)} {ps : Array (Nat × Operand)}
    (hu : P.underlying t = some (.slice e)) (hsz : sizeB P e = some sz) (hz : zeroOk P e zero = true) (hzl : zero.length = sz) (hs0 : sz ≠ 0) (h24 : len * sz ≤ 16777216) (hp : partsS sz parts ps.toList = true)
    {cs : List V} (h : Abs.fill s.env ((List.replicate len zero).flatten) parts = some cs) :
    ∃ own2 m2 id u w2, s.h id = none ∧ (Instr.buildSlice t len (ps.map fun x => (x.1, a.eval x.2))).run P w = .ok u w2 ∧
      Rel cx own2 m2 { s with h := s.h.upd id (some (.arr sz ((List.range len).map fun i => (cs.drop (i * sz)).take sz))) } a.tmps w2 ∧ VR (Rd own2 w2) m2 (.msl id 0 len) u := by
  obtain ⟨z, hzr, hzs, hzc⟩ := zero_run (P := P) (w := w) hz (rd := Rd own w) (m := m)
  obtain ⟨hpl, hpg⟩ := partsS_get hp
  -- the cells at first
  obtain ⟨us, hus, hue, husl, husc⟩ : ∃ us : Array Value, (if len * sz = 0 then (pure #[] : Sem (Array Value)) else do pure (← zeroValue e).cells).run P w = .ok (if len * sz = 0 then #[] else z.cells) w ∧
      us = (Array.range (len * sz)).map (fun i => (if len * sz = 0 then #[] else z.cells)[i % (if len * sz = 0 then #[] else z.cells).size]!) ∧
      us.size = ((List.replicate len zero).flatten).length ∧ ∀ (i : Nat) (c : V) (u : Value), ((List.replicate len zero).flatten)[i]? = some c → us[i]? = some u → CR (Rd own w) m c u := by
    refine ⟨_, ?_, rfl, by rw [flatten_replicate_length, hzl]; simp, ?_⟩
    · split <;> simp [hzr]
    · intro i c u hc hu
      have hi : i < len * zero.length := by
        have := (List.getElem?_eq_some_iff.1 hc).1; rwa [flatten_replicate_length] at this
      have hne : len * sz ≠ 0 := by rw [← hzl]; omega
      rw [flatten_replicate_get _ _ _ hi] at hc
      simp only [if_neg hne] at hu
      rw [zeros_get hzs (by omega) i (by rw [← hzl]; exact hi)] at hu
      exact hzc _ c u hc hu
  obtain ⟨res, hfr, hrs, hrc⟩ := fill_ok hr.f (fun i => some (i * sz, sz)) parts ps.toList _ us cs hpl hpg husl husc h
  have hcl : cs.length = len * sz := by
    have : ∀ (ps : List (Nat × Nat × Opd)) (cs out : List V), Abs.fill s.env cs ps = some out → out.length = cs.length := by
      intro ps
      induction ps with
      | nil => intro cs out h; simp [Abs.fill] at h; rw [h]
      | cons p ps ih =>
        obtain ⟨off, n, x⟩ := p
        intro cs out h
        simp only [Abs.fill] at h
        split at h
        · split at h
          · rename_i hc; rw [ih _ _ h, over_length _ _ _ (by omega)]
          · cases h
        · cases h
    rw [this _ _ _ h, flatten_replicate_length, hzl]
  obtain ⟨own2, m2, id, e1, _, e3, e4, e5, e6⟩ := hr.newBlk s.h (fun _ _ h => h) (.cells res e) sz len (.arr sz ((List.range len).map fun i => (cs.drop (i * sz)).take sz))
    (fun own2 m2 id hrd hm _ _ => by
      refine ⟨rfl, res, e, push_get _ _, by rw [hrs, hcl]; omega, by simp, ?_, ?_⟩
      · intro i x hx
        simp only [List.getElem?_map, Option.map_eq_some_iff] at hx
        obtain ⟨k, hk, rfl⟩ := hx
        have hkl : k < len := by
          have := List.mem_of_getElem? hk; simpa using this
        have : (k + 1) * sz ≤ len * sz := Nat.mul_le_mul_right _ hkl
        rw [Nat.add_mul, Nat.one_mul] at this
        simp; omega
      · intro i x j c hx hj
        simp only [List.getElem?_map, Option.map_eq_some_iff] at hx
        obtain ⟨k, hk, rfl⟩ := hx
        have hki : k = i := by
          have := (List.getElem?_eq_some_iff.1 hk).2; simpa using this.symm
        subst hki
        simp [List.getElem?_take] at hj
        have hlt : k * sz + j < res.size := by rw [hrs]; exact (List.getElem?_eq_some_iff.1 hj.2).1
        exact ⟨res[k * sz + j], by rw [Nat.zero_add]; exact Array.getElem?_eq_getElem hlt, (hrc _ c _ hj.2 (Array.getElem?_eq_getElem hlt)).mono hrd hm⟩) []
  refine ⟨own2, m2, id, .slice (some ⟨w.heap.size, 0, none⟩) len len, _, e1, ?_, e6, .msl _ _ _ w.heap.size 0 sz len _ _ e3 (.inr ⟨by simp, by omega, Nat.le_refl _⟩)⟩
  unfold Instr.buildSlice
  have hbig : (2 : Nat) ^ 24 = 16777216 := by decide
  simp only [Sem.run_bind, run_und hu, Result.andThen_ok, run_sizeB hsz, hbig]
  rw [if_neg (by omega)]
  rw [show (Array.map (fun x : Nat × Operand => (x.1, a.eval x.2)) ps).toList = ps.toList.map (fun x => (x.1, a.eval x.2)) by simp]
  split
  · rename_i hc
    simp only [if_pos hc] at hue
    simp only [Sem.run_bind, Sem.run_pure, Result.andThen_ok]
    rw [← hue, hfr]
    simp [newRow, push]
  · rename_i hc
    simp only [if_neg hc] at hue
    simp only [Sem.run_bind, Sem.run_pure, Result.andThen_ok, hzr]
    rw [← hue, hfr]
    simp [newRow, push]

/-- 'copy', in the model. -/
theorem copy_run {P : Program} {w w2 : World} {t1 t2 e ty sz n dl cap : Nat} {a : Addr} {yu : Value} {arr : Array Value} (hu : P.underlying t1 = some (.slice e)) (hsize : (sizeOf e).run P w = .ok sz w)
    (hlen : (Builtin.lenOf yu).run P w = .ok n w) (hnf : (Builtin.firstCells sz (min n dl) yu).run P w = .ok arr w) (hst : (Go.storeCells a arr.toList 0).run P w = .ok () w2) :
    (Builtin.copy_ #[t1, t2] ty #[.slice (some a) dl cap, yu]).run P w = .ok (.int .i64 (min n dl : Nat)) w2 := by
  have hnf' : (Builtin.firstCells sz (Nat.min n dl) yu).run P w = .ok arr w := hnf
  simp only [Builtin.copy_, List.getElem?_toArray, List.getElem?_cons_zero, List.getElem?_cons_succ, Sem.run_bind, run_und hu, Result.andThen_ok, hlen, hsize, hnf', hst, Sem.run_pure, goInt]

theorem cpy_ok {P : Program} {cx : Cx} {own : Nat → Prop} {m : Maps} {s : S} {tmps : Array Value} {w : World} (hr : Rel cx own m s tmps w) {id off ln : Nat} {y : V} {xu yu : Value} (hx : VR (Rd own w) m (.msl id off ln) xu) (hy : VR (Rd own w) m y yu)
    {t1 t2 e ty sz : Nat} (hu : P.underlying t1 = some (.slice e)) (hsz : sizeB P e = some sz) {els new : List (List V)} (hh : s.h id = some (.arr sz els)) (hle : off + ln ≤ els.length)
    (hn : elemsOf s.h y = some new) (hnz : ∀ z ∈ new, z.length = sz) :
    ∃ w2, (Builtin.copy_ #[t1, t2] ty #[xu, yu]).run P w = .ok (.int .i64 (min new.length ln : Nat)) w2 ∧
      Rel cx own m { s with h := s.h.upd id (some (.arr sz (els.take off ++ new.take ln ++ els.drop (off + min new.length ln)))) } tmps w2 := by
  obtain ⟨hlen, narr, hnl, hnf⟩ := elems_ok (P := P) hr.f hy hn hnz
  obtain ⟨b, ob, sz3, C, a, cap, rfl, hsg, hor⟩ := msl_inv hx
  obtain ⟨b2, o2, C2, hsg2, hown, arr0, ty0, hw, has, hlc, hwd, hc⟩ := hr.f.heap.arr id sz els hh
  rw [hsg] at hsg2; simp at hsg2; obtain ⟨rfl, rfl, rfl, rfl⟩ := hsg2
  have hk : min new.length ln ≤ new.length := Nat.min_le_left _ _
  have hkl : min new.length ln ≤ ln := Nat.min_le_right _ _
  have hnf1 := hnf _ hk
  have htk := hnl.take _ hk
  have hnt : new.take ln = new.take (min new.length ln) := by
    rw [Nat.min_comm, ← List.take_take]
    simp
  obtain ⟨hkf, hk0⟩ := hr.k.ids id _ b _ hh hsg
  -- where it is laid
  rcases hor with ⟨hl0, hc0⟩ | ⟨rfl, hC, hlc2⟩
  · have hm0 : min new.length ln = 0 := by omega
    have hall : els.take off ++ new.take ln ++ els.drop (off + min new.length ln) = els := by rw [hm0, hl0]; simp
    refine ⟨w, copy_run hu (run_sizeB hsz) hlen hnf1 (by rw [hm0]; simp [Go.storeCells]), ?_⟩
    rw [hall]
    have : s.h.upd id (some (.arr sz3 els)) = s.h := by
      funext i; simp only [Heap.upd]; split
      · rename_i e; subst e; exact hh.symm
      · rfl
    rw [this]; exact hr
  · have hbnd : ob + off * sz3 + (narr.take (min new.length ln * sz3)).length ≤ arr0.size := by
      rw [htk.1, List.length_take, has, Nat.add_assoc, ← Nat.add_mul]
      exact Nat.add_le_add_left (Nat.mul_le_mul_right _ (by omega)) _
    have hst := run_storeCells_block (P := P) (o := ob + off * sz3) hw _ hbnd htk.one
    obtain ⟨arr2, f1, f2, f3, f4, f5⟩ := setCells_heap b (narr.take (min new.length ln * sz3)) (ob + off * sz3) w arr0 hw
    have hoth : Other w (w.setCells b (ob + off * sz3) (narr.take (min new.length ln * sz3))) b := ⟨setCells_io _ _ _ _, by omega, fun x hx _ => f5 x hx⟩
    have hrd := rd_mono (own2 := own) hoth (.inl hown) (fun x hx _ => .inl hx)
    refine ⟨_, copy_run hu (run_sizeB hsz) hlen hnf1 hst, ?_⟩
    have hlt : (narr.take (min new.length ln * sz3)).length = min new.length ln * sz3 := by rw [htk.1, List.length_take, Nat.min_eq_left hk]
    refine hr.heapSet (b := b) (id := id) hoth (Maps.le.refl m) (fun _ _ _ h => h) (fun _ _ _ _ h => h) (fun x => ⟨.inl, fun h => h.elim _root_.id (fun e => e ▸ hown)⟩) (.inl hown) ?_ ?_ ?_ hk0 hkf (hr.k.live id _ hh) hr.f.fin
    · intro t2 g2 cs2 h1 h2
      exact hr.f.bh t2 g2 cs2 id _ b _ h1 hh h2 hsg
    · intro k x hk hne
      simp only [Heap.upd, if_neg hne] at hk
      exact ⟨hk, fun r h2 => hne (hr.f.heap.inj k id x _ b _ _ hk hh h2 hsg)⟩
    · intro x hx
      have hxe : x = .arr sz3 (els.take off ++ new.take ln ++ els.drop (off + min new.length ln)) := by
        have : some (Blk.arr sz3 (els.take off ++ new.take ln ++ els.drop (off + min new.length ln))) = some x := by
            rw [← hx]; simp only [Heap.upd, if_true]
        injection this with this; exact this.symm
      subst hxe
      have hget : ∀ i, (els.take off ++ new.take ln ++ els.drop (off + min new.length ln))[i]? = if off ≤ i ∧ i < off + min new.length ln then new[i - off]? else els[i]? := by
        intro i
        rw [hnt, List.append_assoc, List.getElem?_append]
        simp only [List.length_take, show min off els.length = off by omega]
        split
        · rename_i hi
          rw [if_neg (by omega), List.getElem?_take, if_pos hi]
        · rename_i hi
          rw [List.getElem?_append]
          simp only [List.length_take, show min (min new.length ln) new.length = min new.length ln by omega]
          split
          · rename_i h2; rw [if_pos (by omega), List.getElem?_take, if_pos h2]
          · rename_i h2
            rw [if_neg (by omega), List.getElem?_drop]
            congr 1; omega
      refine ⟨ob, sz3, C, hsg, rfl, arr2, ty0, f1, by rw [f2, has], by simp; omega, ?_, ?_⟩
      · intro i y hy
        rw [hget] at hy
        split at hy
        · exact hnz y (List.mem_of_getElem? hy)
        · exact hwd i y hy
      · intro i y j c hy hj
        have hyl : y.length = sz3 := by
          rw [hget] at hy
          split at hy
          · exact hnz y (List.mem_of_getElem? hy)
          · exact hwd i y hy
        have hjs : j < sz3 := by rw [← hyl]; exact (List.getElem?_eq_some_iff.1 hj).1
        rw [hget] at hy
        rw [f3, hlt]
        split at hy
        · rename_i hi
          obtain ⟨u, hu, hcu⟩ := hnl.2.2 _ y j c hy hj
          have hsub : (i - off) * sz3 = i * sz3 - off * sz3 := Nat.sub_mul _ _ _
          have hge : off * sz3 ≤ i * sz3 := Nat.mul_le_mul_right _ hi.1
          have h2 : (i + 1) * sz3 ≤ (off + min new.length ln) * sz3 := Nat.mul_le_mul_right _ hi.2
          rw [Nat.add_mul, Nat.one_mul, Nat.add_mul] at h2
          have h3 : i * sz3 + sz3 ≤ C * sz3 := by
            have : (i + 1) * sz3 ≤ C * sz3 := Nat.mul_le_mul_right _ (by omega)
            rwa [Nat.add_mul, Nat.one_mul] at this
          refine ⟨u, ?_, hcu.mono hrd (Maps.le.refl m)⟩
          rw [if_pos (by rw [has]; omega), List.getElem?_take, if_pos (by omega), show ob + i * sz3 + j - (ob + off * sz3) = (i - off) * sz3 + j by omega]
          exact hu
        · rename_i hi
          obtain ⟨u, hu, hcu⟩ := hc i y j c hy hj
          refine ⟨u, ?_, hcu.mono hrd (Maps.le.refl m)⟩
          rw [if_neg]
          · exact hu
          · intro ⟨h1, h2, _⟩
            apply hi
            constructor
            · rcases Nat.lt_or_ge i off with h | h
              · have : (i + 1) * sz3 ≤ off * sz3 := Nat.mul_le_mul_right _ h
                rw [Nat.add_mul, Nat.one_mul] at this; omega
              · exact h
            · rcases Nat.lt_or_ge i (off + min new.length ln) with h | h
              · exact h
              · have : (off + min new.length ln) * sz3 ≤ i * sz3 := Nat.mul_le_mul_right _ h
                rw [Nat.add_mul] at this; omega

end Go.Abs
