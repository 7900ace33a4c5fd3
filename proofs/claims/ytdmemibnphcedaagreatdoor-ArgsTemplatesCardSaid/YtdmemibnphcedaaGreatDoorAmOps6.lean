/-
  Maps that are written, ranges, growing slices.
-/
import Derived.Test.YtdmemibnphcedaaGreatDoorAmOps5
set_option linter.unusedSimpArgs false
set_option linter.unusedVariables false
set_option maxRecDepth 10000
namespace Go.Am
open Go.RowKit (Below)

variable {P : Program} {B0 : Nat} {W0 : World} {μ : Nat → Spot} {s : St} {w : World} {o : Oper}

theorem sameBits_of {n : Nat} {kk : KeyK} {x y x' y' : Value} (h : sameV kk x y = some true) (hx : VR μ n x x') (hy : VR μ n y y') (k : Nat) : Instr.sameBits (k + 1) x' y' = true ∧ Instr.sameBits (k + 1) y' x' = true := by
  unfold sameV at h
  split at h
  · cases hx; cases hy
    split at h
    · rename_i hk; subst hk; simp at h; subst h; simp [Instr.sameBits]
    · cases h
  · cases hx; cases hy
    rename_i a b
    have : a = b := by
      simp at h
      cases a; cases b; simp at h; rw [h]
    subst this
    simp [Instr.sameBits, beq_toListBytes]
  · cases hx; cases hy
    simp at h; subst h; simp [Instr.sameBits]
  · cases h

theorem ER.mod {n c : Nat} {k v k' v' : Value} (hk : VR μ n k k') (hv : VR μ n v v') : ∀ {es : List (Value × Value × Nat)} {es' : List MapEntry} (i : Nat), ER μ n c es es' → ER μ n c (es.modify i fun e => (k, v, e.2.2)) (es'.modify i fun e => { e with key := k', val := v' })
  | [], [], i, _ => by simp; trivial
  | e :: es, e' :: es', 0, ⟨h1, h2, h3, h4, h5⟩ => by simp; exact ⟨hk, hv, h3, h4, h5⟩
  | e :: es, e' :: es', i + 1, ⟨h1, h2, h3, h4, h5⟩ => by simp; exact ⟨h1, h2, h3, h4, ER.mod hk hv i h5⟩
  | [], _ :: _, _, h => h.elim
  | _ :: _, [], _, h => h.elim
theorem ER.snoc {n c : Nat} {k v k' v' : Value} (hk : VR μ n k k') (hv : VR μ n v v') : ∀ {es : List (Value × Value × Nat)} {es' : List MapEntry}, ER μ n c es es' → ER μ n (c + 1) (es ++ [(k, v, c)]) (es' ++ [{ key := k', val := v', born := c }])
  | [], [], _ => ⟨hk, hv, rfl, by show c < c + 1; omega, trivial⟩
  | e :: es, e' :: es', ⟨h1, h2, h3, h4, h5⟩ => ⟨h1, h2, h3, by omega, ER.snoc hk hv h5⟩
  | [], _ :: _, h => h.elim
  | _ :: _, [], h => h.elim
theorem ER.erase {n c : Nat} : ∀ {es : List (Value × Value × Nat)} {es' : List MapEntry} (i : Nat), ER μ n c es es' → ER μ n c (es.eraseIdx i) (es'.eraseIdx i)
  | [], [], i, _ => by simp; trivial
  | e :: es, e' :: es', 0, ⟨h1, h2, h3, h4, h5⟩ => by simp; exact h5
  | e :: es, e' :: es', i + 1, ⟨h1, h2, h3, h4, h5⟩ => by simp; exact ⟨h1, h2, h3, h4, ER.erase i h5⟩
  | [], _ :: _, _, h => h.elim
  | _ :: _, [], _, h => h.elim

/-- a map's block turned -/
theorem map_turned (h : Rel B0 W0 μ s w) {r : Nat} {es : List (Value × Value × Nat)} {c : Nat} (hr : s.get r = some (.map es c)) {es1 : List (Value × Value × Nat)} {c1 : Nat} {es1' : Array MapEntry} (he : ER μ s.next c1 es1 es1'.toList) :
    Rel B0 W0 μ (s.put r (some (.map es1 c1))) { w with heap := w.heap.setIfInBounds (μ r).block (.map es1' c1) } := by
  have hk := h.known r _ hr
  refine h.setObj hr rfl _ _ ⟨hk.2.2.1, es1', ?_, he⟩
  simp [hk.2.1]

theorem ws_mapSet {op : Op} {t kt e : TypeId} {m k x : Operand} {kk : KeyK} (ht : P.underlying t = some (.map kt e)) (hkk : keyT P kt = some kk) (hop : op = .mapUpdate t m k x ∨ op = .insert t m k x) (ho : o.op = op) : WSound P B0 W0 μ s w o (.mapSet kk) [m, k, x] := by
  intro ρ vs v s' h hv hp
  obtain ⟨u1, u2, u3, rfl, h1, h2, h3⟩ := hv.inv3
  generalize hm : ρ m = m' at h1
  obtain ⟨d, hd, hdk⟩ := keyT_desc hkk
  cases h1 <;> (try (simp [wop] at hp; done))
  rename_i r hr
  simp only [wop] at hp
  split at hp <;> (try (cases hp; done))
  rename_i es clock hget
  split at hp <;> (try (cases hp; done))
  obtain ⟨hB, es', hb, he⟩ := (h.known r _ hget).2.2
  have hgo := MapKept.run_getObj_map (P := P) hb
  have hexec : (execOp ρ o).run P w = ((Instr.mapUpdate t (.map (some (μ r).block)) (ρ k) (ρ x)).run P w).andThen fun _ w' => .ok .skip w' := by
    rcases hop with rfl | rfl <;> simp [execOp, ho, hm]
  split at hp
  · rename_i i u hf
    simp at hp
    obtain ⟨rfl, rfl⟩ := hp
    rcases find_sound hdk h2 es es'.toList 0 _ he hf with ⟨k1, _⟩ | ⟨j, u1, u', e', k1, k2, k3, k4, k5, ⟨e0, k6, k7, k8⟩, _⟩
    · cases k1
    · simp at k1
      obtain ⟨rfl, rfl⟩ := k1
      have hj : es'[i]? = some e' := by simpa using k4
      have hst : (Instr.keyThatStays (((es'[i]?).map (·.key)).getD (ρ k)) (ρ k)).run P w = .ok (ρ k) w := by
        simp only [hj, Option.map_some, Option.getD_some, Instr.keyThatStays]
        rw [if_pos (sameBits_of (k := 9999) k7 h2 k8).2]
        rfl
      refine ⟨undef, { w with heap := w.heap.setIfInBounds (μ r).block (.map (es'.modify i fun e => { e with key := ρ k, val := ρ x }) clock) }, .inr ⟨?_, rfl⟩, μ, Agree.refl _ _, ?_, .tuple _ _ .nil⟩
      · rw [hexec]
        simp only [Instr.mapUpdate, Sem.run_bind, r_under w ht, hgo, check_key (k := 9999) hkk, MapKept.run_findKey hd k2, Result.andThen_ok, Nat.zero_add, hst, MapKept.run_setObj_map _ hb]
      · refine map_turned h hget ?_
        rw [Array.toList_modify]
        exact he.mod h2 h3 i
  · rename_i hf
    simp at hp
    obtain ⟨rfl, rfl⟩ := hp
    rcases find_sound hdk h2 es es'.toList 0 _ he hf with ⟨_, k2⟩ | ⟨_, _, _, _, k1, _⟩
    · refine ⟨undef, { w with heap := w.heap.setIfInBounds (μ r).block (.map (es'.push { key := ρ k, val := ρ x, born := clock }) (clock + 1)) }, .inr ⟨?_, rfl⟩, μ, Agree.refl _ _, ?_, .tuple _ _ .nil⟩
      · rw [hexec]
        simp only [Instr.mapUpdate, Sem.run_bind, r_under w ht, hgo, check_key (k := 9999) hkk, MapKept.run_findKey hd k2, Result.andThen_ok, MapKept.run_setObj_map _ hb]
      · refine map_turned h hget ?_
        rw [Array.toList_push]
        exact he.snoc h2 h3
    · cases k1
  · cases hp

theorem ws_delete {t t2 kt e : TypeId} {m k : Operand} {kk : KeyK} (ht : P.underlying t = some (.map kt e)) (hkk : keyT P kt = some kk) (ho : o.op = .call { callee := .builtin .delete, args := #[m, k], argTypes := #[t, t2] }) : WSound P B0 W0 μ s w o (.delete kk) [m, k] := by
  intro ρ vs v s' h hv hp
  obtain ⟨u1, u2, rfl, h1, h2⟩ := hv.inv2
  generalize hm : ρ m = m' at h1
  obtain ⟨d, hd, hdk⟩ := keyT_desc hkk
  cases h1 <;> (try (simp [wop] at hp; done))
  case nilMap =>
    simp only [wop] at hp
    split at hp
    · simp at hp
      obtain ⟨rfl, rfl⟩ := hp
      exact ⟨.tuple #[], w, .inl (by simp [execOp, ho, resolve, invoke, builtin, Builtin.delete_, hm, r_under w ht, check_key (k := 9999) hkk]), μ, Agree.refl _ _, h, .tuple _ _ .nil⟩
    · cases hp
  case map r hr =>
    simp only [wop] at hp
    split at hp <;> (try (cases hp; done))
    rename_i es clock hget
    split at hp <;> (try (cases hp; done))
    obtain ⟨hB, es', hb, he⟩ := (h.known r _ hget).2.2
    have hgo := MapKept.run_getObj_map (P := P) hb
    split at hp
    · rename_i i u hf
      simp at hp
      obtain ⟨rfl, rfl⟩ := hp
      rcases find_sound hdk h2 es es'.toList 0 _ he hf with ⟨k1, _⟩ | ⟨j, u1, u', e', k1, k2, k3, k4, _⟩
      · cases k1
      · simp at k1
        obtain ⟨rfl, rfl⟩ := k1
        refine ⟨.tuple #[], { w with heap := w.heap.setIfInBounds (μ r).block (.map (es'.eraseIdxIfInBounds i) clock) }, .inl ?_, μ, Agree.refl _ _, ?_, .tuple _ _ .nil⟩
        · simp [execOp, ho, resolve, invoke, builtin, Builtin.delete_, hm, r_under w ht, hgo, check_key (k := 9999) hkk, MapKept.run_findKey hd k2, MapKept.run_setObj_map _ hb]
        · refine map_turned h hget ?_
          have : (es'.eraseIdxIfInBounds i).toList = es'.toList.eraseIdx i := by simp
          rw [this]
          exact he.erase i
    · rename_i hf
      simp at hp
      obtain ⟨rfl, rfl⟩ := hp
      rcases find_sound hdk h2 es es'.toList 0 _ he hf with ⟨_, k2⟩ | ⟨_, _, _, _, k1, _⟩
      · refine ⟨.tuple #[], { w with heap := w.heap.setIfInBounds (μ r).block (.map es' clock) }, .inl ?_, μ, Agree.refl _ _, ?_, .tuple _ _ .nil⟩
        · simp [execOp, ho, resolve, invoke, builtin, Builtin.delete_, hm, r_under w ht, hgo, check_key (k := 9999) hkk, MapKept.run_findKey hd k2, MapKept.run_setObj_map _ hb]
        · refine h.heap ?_ rfl rfl rfl
          apply Array.ext_getElem?
          intro j
          rw [Array.getElem?_setIfInBounds]
          split
          · rename_i hj
            subst hj
            rw [if_pos (h.known r _ hget).2.1, hb]
          · rfl
      · cases k1
    · cases hp

theorem range_after (h : Rel B0 W0 μ s w) (ob : AObj) (c : Obj) (hid : IdOk B0 (upd μ s.next ⟨w.heap.size, 0, 0, 0⟩) (s.next + 1) (w.alloc c) s.next ob) : After B0 W0 μ s (.pointer (some ⟨s.next, 0, none⟩)) (s.new ob) (.pointer (some ⟨w.heap.size, 0, none⟩)) (w.alloc c) := by
  refine ⟨_, upd_agree ⟨w.heap.size, 0, 0, 0⟩ _, h.new ob c ⟨w.heap.size, 0, 0, 0⟩ rfl hid, ?_⟩
  have := VR.ptr (μ := upd μ s.next ⟨w.heap.size, 0, 0, 0⟩) (n := s.next + 1) s.next 0 (by omega)
  simpa [upd_same] using this
theorem alloc_new (w : World) (c : Obj) : (w.alloc c).heap[w.heap.size]? = some c := by show (w.heap.push _)[w.heap.size]? = _; simp

theorem ws_rangeStr {t : TypeId} {x : Operand} (ht : P.underlying t = some .string) (ho : o.op = .range t x) : WSound P B0 W0 μ s w o (.range true) [x] := by
  intro ρ vs v s' h hv hp
  obtain ⟨a, rfl, ha⟩ := hv.inv1
  generalize hx : ρ x = x' at ha
  cases ha <;> (try (simp [wop] at hp; done))
  rename_i b
  simp [wop] at hp
  obtain ⟨rfl, rfl⟩ := hp
  exact ⟨_, w.alloc (.stringIter b 0), .inl (by simp [execOp, ho, hx, Instr.range, r_under w ht]), range_after h _ _ ⟨by rw [upd_same]; exact h.size, by rw [upd_same], by rw [upd_same]; exact alloc_new _ _⟩⟩

theorem ws_rangeMap {t k e : TypeId} {x : Operand} (ht : P.underlying t = some (.map k e)) (ho : o.op = .range t x) : WSound P B0 W0 μ s w o (.range false) [x] := by
  intro ρ vs v s' h hv hp
  obtain ⟨a, rfl, ha⟩ := hv.inv1
  generalize hx : ρ x = x' at ha
  cases ha <;> (try (simp [wop] at hp; done))
  case nilMap =>
    simp [wop] at hp
    obtain ⟨rfl, rfl⟩ := hp
    exact ⟨_, w.alloc (.mapIter none 0 #[] 0), .inl (by simp [execOp, ho, hx, Instr.range, r_under w ht]), range_after h _ _ ⟨by rw [upd_same]; exact h.size, by rw [upd_same], fun r hr => by simp at hr, by rw [upd_same]; exact alloc_new _ _⟩⟩
  case map r hr =>
    simp only [wop] at hp
    split at hp <;> (try (cases hp; done))
    rename_i es clock hget
    simp at hp
    obtain ⟨rfl, rfl⟩ := hp
    obtain ⟨hB, es', hb, he⟩ := (h.known r _ hget).2.2
    have hgo := MapKept.run_getObj_map (P := P) hb
    have hne : r ≠ s.next := by omega
    exact ⟨_, w.alloc (.mapIter (some (μ r).block) clock #[] clock), .inl (by simp [execOp, ho, hx, Instr.range, r_under w ht, hgo]), range_after h _ _ ⟨by rw [upd_same]; exact h.size, by rw [upd_same], fun q hq => by simp at hq; omega, by rw [upd_same]; simp only [Option.map_some, upd, hne, if_false]; exact alloc_new _ _⟩⟩

/-! ### a slice that grows -/
theorem src_sound (h : Rel B0 W0 μ s w) {esz : Nat} {v v' : Value} (hv : VR μ s.next v v') {n : Nat} {l : List Value} (hn : srcLen v = some n) (hl : s.srcCells esz v = some l) :
    (Builtin.lenOf v').run P w = .ok n w ∧ ∀ k, k ≤ n → ∃ l', (Builtin.firstCells esz k v').run P w = .ok l'.toArray w ∧ VRs μ s.next (l.take (k * esz)) l' := by
  cases hv <;> simp [srcLen] at hn
  case string b =>
    subst hn
    simp [St.srcCells] at hl
    obtain ⟨rfl, rfl⟩ := hl
    refine ⟨by simp [Builtin.lenOf], fun k hk => ⟨(b.data.toList.map fun c => Value.int .u8 c.toNat).take k, ?_, ?_⟩⟩
    · simp only [Builtin.firstCells, Sem.run_pure]
      congr 1
      apply Array.toList_inj.1
      have : (b.extract 0 k).data = b.data.extract 0 k := by simp [ByteArray.extract, ByteArray.copySlice]
      rw [this]
      simp
    · rw [Nat.mul_one]
      have : ∀ l : List UInt8, VRs μ s.next (l.map fun c => Value.int .u8 c.toNat) (l.map fun c => Value.int .u8 c.toNat) := fun l => by
        induction l with
        | nil => exact .nil
        | cons x l ih => exact .cons _ _ _ _ (.int _ _) ih
      exact (this _).take k
  case nilSlice =>
    subst hn
    simp [St.srcCells] at hl
    subst hl
    exact ⟨by simp [Builtin.lenOf], fun k hk => ⟨[], by simp [Builtin.firstCells], by simp; exact .nil⟩⟩
  case void ad =>
    subst hn
    simp [St.srcCells] at hl
    subst hl
    refine ⟨by simp [Builtin.lenOf], fun k hk => ⟨[], ?_, by simp; exact .nil⟩⟩
    have : k = 0 := by omega
    subst this
    simp [Builtin.firstCells, loadCells, loadCellsFrom]
  case slice i off off' len cap cap' hi q0 q1 q2 q3 q4 q5 =>
    subst hn
    simp only [St.srcCells] at hl
    by_cases hn0 : len = 0
    · subst hn0
      simp at hl
      subst hl
      refine ⟨by simp [Builtin.lenOf], fun k hk => ⟨[], ?_, by simp; exact .nil⟩⟩
      have : k = 0 := by omega
      subst this
      simp [Builtin.firstCells, loadCells, loadCellsFrom]
    rw [if_neg hn0] at hl
    refine ⟨by simp [Builtin.lenOf], fun k hk => ?_⟩
    by_cases hk0 : k * esz = 0
    · refine ⟨[], by simp [Builtin.firstCells, hk0, loadCells, loadCellsFrom], by rw [hk0]; simp; exact .nil⟩
    · have hlen : 0 < cap := by
        have : k ≠ 0 := fun e => hk0 (by rw [e]; simp)
        omega
      have hoo := q3 (.inl hlen)
      subst hoo
      have hc : s.cells ⟨i, off, none⟩ (k * esz) = some (l.take (k * esz)) := by
        unfold St.cells at hl ⊢
        simp only at hl ⊢
        split at hl
        · rename_i cs g ro hget
          split at hl
          · rename_i hle
            simp at hl
            have hmul : k * esz ≤ len * esz := Nat.mul_le_mul_right _ hk
            rw [if_pos (by omega), ← hl, List.take_take, Nat.min_eq_left hmul]
          · cases hl
        · cases hl
      obtain ⟨l', k1, k2⟩ := load_cells (P := P) h hc
      exact ⟨l', by simp [Builtin.firstCells, k1], k2⟩

end Go.Am
