/-
  The operations that turn the heap, each held against the first machine's: what makes new blocks, stores, maps.
-/
import Derived.Test.YtdmemibnphcedaaGreatDoorAmOps4
set_option linter.unusedSimpArgs false
set_option linter.unusedVariables false
set_option maxRecDepth 10000
namespace Go.Am
open Go.RowKit (Below)

variable {P : Program} {B0 : Nat} {W0 : World} {μ : Nat → Spot} {s : St} {w : World} {o : Oper}

theorem r_new (P : Program) (w : World) (c : Obj) : (newObj c).run P w = .ok w.heap.size (w.alloc c) := rfl

/-- the operation is carried out, and leaves this value (or nothing) in this world -/
def Did (P : Program) (ρ : Operand → Value) (o : Oper) (w : World) (v : Value) (w' : World) : Prop :=
  (execOp ρ o).run P w = .ok (.value v) w' ∨ ((execOp ρ o).run P w = .ok .skip w' ∧ v = undef)

/-- what is known after a step: the value stands for the other one, the heaps go together, nothing is forgotten -/
def After (B0 : Nat) (W0 : World) (μ : Nat → Spot) (s : St) (v : Value) (s' : St) (v' : Value) (w' : World) : Prop :=
  ∃ μ', Agree μ s.next μ' s'.next ∧ Rel B0 W0 μ' s' w' ∧ VR μ' s'.next v v'

def WSound (P : Program) (B0 : Nat) (W0 : World) (μ : Nat → Spot) (s : St) (w : World) (o : Oper) (q : WOp) (xs : List Operand) : Prop :=
  ∀ (ρ : Operand → Value) (vs : List Value) (v : Value) (s' : St), Rel B0 W0 μ s w → VRs μ s.next vs (xs.map ρ) → wop q vs s = some (v, s') → ∃ v' w', Did P ρ o w v' w' ∧ After B0 W0 μ s v s' v' w'

theorem newPtr_after (h : Rel B0 W0 μ s w) {cs : List Value} {c : Array Value} (hc : VRs μ s.next cs c.toList) {t : TypeId} {v : Value} {s' : St} (hp : s.newPtr cs = some (v, s')) :
    After B0 W0 μ s v s' (.pointer (some ⟨w.heap.size, 0, none⟩)) (w.alloc (.cells c t)) := by
  simp [St.newPtr] at hp
  obtain ⟨rfl, rfl⟩ := hp
  refine ⟨_, upd_agree _ _, h.newRow cs 0 c t (0, 0) (fun j v hj => ?_) (by have := hc.length; simp at this; omega) (fun x _ => by simp), ?_⟩
  · obtain ⟨v', h1, h2⟩ := hc.get hj
    exact ⟨v', by simpa using h1, h2⟩
  · have := VR.ptr (μ := upd μ s.next ⟨w.heap.size, 0, c.size, 0⟩) (n := s.next + 1) s.next 0 (by omega)
    simpa [upd_same] using this

theorem ws_new {e : TypeId} {z : Value} (hz : zeroT P e = some z) (ho : o.op = .alloc e) : WSound P B0 W0 μ s w o (.new (cellsOf z)) [] := by
  intro ρ vs v s' h hv hp
  obtain rfl := hv.inv0
  simp only [wop] at hp
  have hzr : VR μ s.next z z := plainV_rel (zeroT_spec hz).choose_spec.2.2
  exact ⟨.pointer (some ⟨w.heap.size, 0, none⟩), w.alloc (.cells z.cells e), .inl (by simp [execOp, ho, Instr.alloc, r_zero w hz, newVar, newRow]), newPtr_after h hzr.cellsOf hp⟩

theorem ws_box {e : TypeId} {x : Operand} {k : Nat} (ho : o.op = .box e x) : WSound P B0 W0 μ s w o (.box k) [x] := by
  intro ρ vs v s' h hv hp
  obtain ⟨a, rfl, ha⟩ := hv.inv1
  simp only [wop] at hp
  split at hp
  · exact ⟨.pointer (some ⟨w.heap.size, 0, none⟩), w.alloc (.cells (ρ x).cells e), .inl (by simp [execOp, ho, Instr.box, newVar, newRow]), newPtr_after h ha.cellsOf hp⟩
  · cases hp

theorem replicateL_length (k : Nat) (l : List Value) : (replicateL k l).length = k * l.length := by
  induction k with
  | zero => simp [replicateL]
  | succ k ih => simp [replicateL, ih, Nat.add_mul]; omega
theorem replicateL_get (k : Nat) (l : List Value) (i : Nat) (h : i < k * l.length) : (replicateL k l)[i]? = l[i % l.length]? := by
  induction k generalizing i with
  | zero => simp at h
  | succ k ih =>
    simp only [replicateL]
    by_cases hi : i < l.length
    · rw [List.getElem?_append_left hi, Nat.mod_eq_of_lt hi]
    · rw [List.getElem?_append_right (by omega), ih _ (by rw [Nat.add_mul] at h; omega)]
      congr 1
      rw [Nat.mod_eq_sub_mod (by omega : i ≥ l.length)]

theorem made_toList (z : Array Value) (k m : Nat) (hz : z.size = m) (hm : 0 < m) : ((Array.range (k * m)).map fun i => z[i % z.size]!).toList = replicateL k z.toList := by
  apply List.ext_getElem?
  intro i
  by_cases hi : i < k * m
  · rw [replicateL_get _ _ _ (by simpa [hz] using hi)]
    have hlt : i % z.size < z.size := Nat.mod_lt _ (by omega)
    simp [hi, hlt]
  · have h1 : (replicateL k z.toList).length ≤ i := by rw [replicateL_length]; simp [hz]; omega
    rw [List.getElem?_eq_none h1]
    simp; omega

theorem ws_sliceLit {t e : TypeId} {len m : Nat} {parts : Array (Nat × Operand)} {z : Value} {ps : List (Nat × Nat)} (ht : P.underlying t = some (.slice e)) (hz : zeroT P e = some z) (hm : sizeT P e = some m)
    (hps : placesOf P t (parts.toList.map (·.1)) = some ps) (hle : len * m ≤ 16777216) (hzm : (cellsOf z).length = m) (ho : o.op = .buildSlice t len parts) :
    WSound P B0 W0 μ s w o (.sliceLit (replicateL len (cellsOf z)) len ps) (parts.toList.map (·.2)) := by
  intro ρ vs v s' h hv hp
  have hzr : VR μ s.next z z := plainV_rel (zeroT_spec hz).choose_spec.2.2
  simp only [wop, Option.map_eq_some_iff, Prod.mk.injEq] at hp
  obtain ⟨cs, hcs, rfl, rfl⟩ := hp
  have hcl := hzr.cellsOf.length
  simp only [Array.length_toList] at hcl
  have hzz : cellsOf z = z.cells.toList := by cases z <;> rfl
  -- the zero cells, as the first machine makes them
  obtain ⟨zero, hzero, hzl⟩ : ∃ zero : Array Value, zero = (if len * m = 0 then #[] else z.cells) ∧ ((Array.range (len * m)).map fun i => zero[i % zero.size]!).toList = replicateL len (cellsOf z) := by
    by_cases hlm : len * m = 0
    · refine ⟨#[], by simp [hlm], ?_⟩
      have : (replicateL len (cellsOf z)).length = 0 := by rw [replicateL_length, hzm, hlm]
      rw [List.length_eq_zero_iff.1 this]
      simp [hlm]
    · refine ⟨z.cells, by simp [hlm], ?_⟩
      rw [made_toList z.cells len m (by omega) (by rcases Nat.eq_zero_or_pos m with e | e; simp [e] at hlm; exact e), hzz]
  unfold placesOf at hps
  simp only [placeFn, ht, Option.bind_eq_some_iff, Option.map_eq_some_iff] at hps
  obtain ⟨f, ⟨m', hm', rfl⟩, hpl⟩ := hps
  rw [hm] at hm'
  simp at hm'
  subst hm'
  have hcells : VRs μ s.next (replicateL len (cellsOf z)) ((Array.range (len * m)).map fun i => zero[i % zero.size]!).toList := by
    rw [hzl]
    refine VRs.of_get rfl fun j v hj => ⟨v, hj, ?_⟩
    have hjl : j < len * (cellsOf z).length := by
      rcases Nat.lt_or_ge j (replicateL len (cellsOf z)).length with hh | hh
      · rwa [replicateL_length] at hh
      · rw [List.getElem?_eq_none hh] at hj; cases hj
    rw [replicateL_get _ _ _ hjl] at hj
    obtain ⟨v', k1, k2⟩ := hzr.cellsOf.get hj
    rw [← hzz, hj] at k1
    simp at k1
    subst k1
    exact k2
  obtain ⟨cs', k1, k2⟩ := fill_sound _ ps vs _ _ _ cs hcells hv hpl hcs
  have hzip : (parts.map fun (i, x) => (i, ρ x)).toList = (parts.toList.map (·.1)).zip ((parts.toList.map (·.2)).map ρ) := by
    rw [Array.toList_map, List.map_map]
    generalize parts.toList = l
    induction l with
    | nil => rfl
    | cons x l ih => simp [ih]
  have hno : ¬ len * m > 2 ^ 24 := by omega
  refine ⟨.slice (some ⟨w.heap.size, 0, none⟩) len len, w.alloc (.cells cs' e), .inl ?_, ?_⟩
  · rw [← hzip] at k1
    simp only [execOp, ho, Instr.buildSlice, Sem.run_bind, r_under w ht, Result.andThen_ok, r_size w hm, if_neg hno]
    by_cases hlm : len * m = 0
    · simp only [hlm, if_true] at hzero k1 ⊢
      subst hzero
      simp only [Sem.run_bind, Sem.run_pure, Result.andThen_ok, k1, newRow, r_new]
    · simp only [hlm, if_false] at hzero k1 ⊢
      subst hzero
      simp only [Sem.run_bind, Sem.run_pure, r_zero w hz, Result.andThen_ok, k1, newRow, r_new]
  · refine ⟨_, upd_agree _ _, h.newRow cs 0 cs' e (0, 0) (fun j v hj => ?_) (by have := k2.length; simp at this; omega) (fun x _ => by simp), ?_⟩
    · obtain ⟨v', q1, q2⟩ := k2.get hj
      exact ⟨v', by simpa using q1, q2⟩
    · have := VR.slice (μ := upd μ s.next ⟨w.heap.size, 0, cs'.size, 0⟩) (n := s.next + 1) s.next 0 0 len len len (by omega) (Nat.le_refl _) (Nat.le_refl _) (fun _ => rfl) (fun _ => by simp [upd_same]) (by simp [upd_same]) (fun hh => by simp [upd_same] at hh)
      simpa [upd_same] using this

theorem oneCell_eq (v : Value) : v.oneCell' = oneCell v := by cases v <;> rfl

theorem VRs.oneCells {n : Nat} : ∀ {l l' : List Value}, VRs μ n l l' → l.all oneCell = true → ∀ v ∈ l', v.oneCell' = true
  | [], [], _, _ => by simp
  | _ :: _, _ :: _, .cons _ _ _ _ h hs, ha => by
    simp only [List.all_cons, Bool.and_eq_true] at ha
    intro v hv
    cases hv with
    | head => rw [oneCell_eq, h.oneCell]; exact ha.1
    | tail _ hv => exact hs.oneCells ha.2 v hv

/-- a store of cells, as far as the heaps go -/
theorem storeAt_sound (h : Rel B0 W0 μ s w) {i off : Nat} {vs vs' : List Value} {s' : St} (hv : VRs μ s.next vs vs') (hs : s.storeAt ⟨i, off, none⟩ vs = some s') :
    (storeCells ⟨(μ i).block, (μ i).base + off, none⟩ vs').run P w = .ok () (w.setCells (μ i).block ((μ i).base + off) vs') ∧ Rel B0 W0 μ s' (w.setCells (μ i).block ((μ i).base + off) vs') ∧ s'.next = s.next := by
  unfold St.storeAt at hs
  simp only at hs
  split at hs
  · rename_i cs g hget
    split at hs
    · rename_i hc
      simp at hs
      subst hs
      obtain ⟨hlen, hone⟩ := hc
      have hid := (h.known i _ hget).2.2
      obtain ⟨_, hlim, _, _, hown⟩ := hid
      have hown := (hown rfl).2.1
      have hl := hv.length
      refine ⟨?_, h.stored hget off vs vs' hv hlen, rfl⟩
      have := run_storeCells_cells (P := P) (μ i).block ((μ i).base + off) vs' 0 w (fun j hj => (hown _ (by omega) (by omega)).1) (fun j hj => (hown _ (by omega) (by omega)).2) (hv.oneCells (by simpa using hone))
      simpa using this
    · cases hs
  · cases hs

theorem ws_store {t : TypeId} {a x : Operand} {k : Nat} (hk : sizeT P t = some k) (ho : o.op = .store t a x) : WSound P B0 W0 μ s w o (.store k) [a, x] := by
  intro ρ vs v s' h hv hp
  obtain ⟨u1, u2, rfl, h1, h2⟩ := hv.inv2
  generalize hx : ρ a = x' at h1
  cases h1 <;> simp only [wop] at hp <;> (try (cases hp; done))
  rename_i i off hi
  split at hp
  · rename_i hlen
    simp only [Option.map_eq_some_iff, Prod.mk.injEq] at hp
    obtain ⟨s1, hs, rfl, rfl⟩ := hp
    have hcl := h2.cellsOf
    have hl := hcl.length
    simp only [Array.length_toList] at hl
    obtain ⟨k1, k2, k3⟩ := storeAt_sound (P := P) h hcl hs
    have hsz : ¬ (ρ x).cells.size ≠ k := by omega
    refine ⟨undef, _, .inr ⟨by simp only [execOp, ho, hx, Instr.storeAt, Instr.sureAddr, storeVar, Sem.run_bind, Sem.run_pure, Result.andThen_ok, r_size w hk, if_neg hsz, k1], rfl⟩, μ, ⟨by omega, fun _ _ => rfl⟩, k2, .tuple _ _ .nil⟩
  · cases hp

theorem ws_mkMap {t : TypeId} (ho : o.op = .makeMap t none) : WSound P B0 W0 μ s w o .mkMap [] := by
  intro ρ vs v s' h hv hp
  obtain rfl := hv.inv0
  simp [wop] at hp
  obtain ⟨rfl, rfl⟩ := hp
  refine ⟨.map (some w.heap.size), w.alloc (.map #[] 0), .inl (by simp [execOp, ho, Instr.makeMap]), _, upd_agree ⟨w.heap.size, 0, 0, 0⟩ _, h.new _ _ ⟨w.heap.size, 0, 0, 0⟩ rfl ⟨by rw [upd_same]; exact h.size, #[], ?_, trivial⟩, ?_⟩
  · rw [upd_same]; show (w.heap.push _)[w.heap.size]? = _; simp
  · have := VR.map (μ := upd μ s.next ⟨w.heap.size, 0, 0, 0⟩) (n := s.next + 1) s.next (by omega)
    simpa [upd_same] using this

theorem mkSlice_run {t e : TypeId} {z : Value} {m b : Nat} {k k' : IntKind} {l c : Int} (ht : P.underlying t = some (.slice e)) (hz : zeroT P e = some z) (hm : sizeT P e = some m) (hb : bytesT P e = some b) (hzm : (cellsOf z).length = m) (hm0 : 0 < m)
    (h0 : 0 ≤ l) (h1 : l ≤ c) (h2 : c * b ≤ 1099511627776) (h3 : c ≤ 1099511627776) :
    ∃ cells : Array Value, cells.toList = replicateL c.toNat (cellsOf z) ∧ (Instr.makeSlice t (.int k l) (.int k' c)).run P w = .ok (.slice (some ⟨w.heap.size, 0, none⟩) l.toNat c.toNat) (w.alloc (.cells cells e)) := by
  have hzz : cellsOf z = z.cells.toList := by cases z <;> rfl
  obtain ⟨i, hi, hiz, _⟩ := zeroT_spec hz
  have hib : i.bytes = b := by simp [bytesT, hi] at hb; exact hb
  have hwl : IntKind.wrap .i64 l = l := by rw [← wrapF_eq]; simp only [wrapF]; rw [if_pos (by omega)]
  have hwc : IntKind.wrap .i64 c = c := by rw [← wrapF_eq]; simp only [wrapF]; rw [if_pos (by omega)]
  have hcb : ¬ ((b : Int) * c > 2 ^ 48) := by rw [Int.mul_comm]; omega
  have htl : (decide (c < 0) || decide ((b : Int) * c > 2 ^ 48) || decide (l < 0) || decide (l > c)) = false := by
    simp; omega
  by_cases hn : c.toNat * m = 0
  · have hc0 : c.toNat = 0 := by rcases Nat.mul_eq_zero.1 hn with e | e <;> omega
    refine ⟨#[], by rw [hc0]; rfl, ?_⟩
    simp only [Instr.makeSlice, Sem.run_bind, r_under w ht, asInt, asIntOf, Sem.run_pure, Result.andThen_ok, r_info w hi, hib, hwl, hwc, htl, Bool.false_eq_true, if_false, askRoom]
    simp [hc0, r_size w hm, newRow, roomBytes]
    rw [show Array.range 0 = #[] from rfl, Array.map_empty]
  · refine ⟨(Array.range (c.toNat * m)).map fun i => z.cells[i % z.cells.size]!, by rw [made_toList z.cells c.toNat m (by rw [← hzm, hzz]; simp) hm0, hzz], ?_⟩
    simp only [Instr.makeSlice, Sem.run_bind, r_under w ht, asInt, asIntOf, Sem.run_pure, Result.andThen_ok, r_info w hi, hib, hwl, hwc, htl, Bool.false_eq_true, if_false, askRoom]
    have hroom : ∀ w : World, (if c.toNat * b > roomBytes then mark .noRoom else pure () : Sem Unit).run P w = .ok () w := fun w => by split <;> rfl
    simp only [hroom, Result.andThen_ok, r_size w hm, Sem.run_bind, hn, if_false, r_zero w hz, Sem.run_pure, newRow, r_new]

theorem ws_mkSlice {t e : TypeId} {z : Value} {m b : Nat} {x y : Operand} (ht : P.underlying t = some (.slice e)) (hz : zeroT P e = some z) (hm : sizeT P e = some m) (hb : bytesT P e = some b) (hzm : (cellsOf z).length = m) (hm0 : 0 < m) (ho : o.op = .makeSlice t x y) :
    WSound P B0 W0 μ s w o (.mkSlice (cellsOf z) b) [x, y] := by
  intro ρ vs v s' h hv hp
  obtain ⟨u1, u2, rfl, h1, h2⟩ := hv.inv2
  generalize hx : ρ x = x' at h1
  generalize hy : ρ y = y' at h2
  have hzr : VR μ s.next z z := plainV_rel (zeroT_spec hz).choose_spec.2.2
  cases h1 <;> simp only [wop] at hp <;> (try (cases hp; done))
  rename_i k l
  cases h2 <;> simp only at hp <;> (try (cases hp; done))
  rename_i k' c
  split at hp
  · rename_i hc
    simp at hp
    obtain ⟨rfl, rfl⟩ := hp
    obtain ⟨cells, hcl, hr⟩ := mkSlice_run (P := P) (w := w) (k := k) (k' := k') ht hz hm hb hzm hm0 hc.1 hc.2.1 hc.2.2.1 hc.2.2.2
    refine ⟨.slice (some ⟨w.heap.size, 0, none⟩) l.toNat c.toNat, w.alloc (.cells cells e), .inl (by simp only [execOp, ho, hx, hy, Sem.run_bind, hr, Result.andThen_ok, Sem.run_pure]), _, upd_agree _ _, h.newRow _ 0 cells e (0, 0) (fun j v hj => ?_) (by rw [← hcl]; simp) (fun x _ => by simp), ?_⟩
    · rw [← hcl] at hj
      refine ⟨v, by simpa using hj, ?_⟩
      rw [hcl] at hj
      have hjl : j < c.toNat * (cellsOf z).length := by
        rcases Nat.lt_or_ge j (replicateL c.toNat (cellsOf z)).length with hh | hh
        · rwa [replicateL_length] at hh
        · rw [List.getElem?_eq_none hh] at hj; cases hj
      rw [replicateL_get _ _ _ hjl] at hj
      obtain ⟨v', k1, k2⟩ := hzr.cellsOf.get hj
      have hzz : cellsOf z = z.cells.toList := by cases z <;> rfl
      rw [← hzz, hj] at k1
      simp at k1
      subst k1
      exact k2
    · have := VR.slice (μ := upd μ s.next ⟨w.heap.size, 0, cells.size, 0⟩) (n := s.next + 1) s.next 0 0 l.toNat c.toNat c.toNat (by omega) (by omega) (Nat.le_refl _) (fun _ => rfl) (fun _ => by simp [upd_same]) (by simp [upd_same]) (fun hh => by simp [upd_same] at hh)
      simpa [upd_same] using this
  · cases hp

theorem ws_sl3 {t e : TypeId} {m : Nat} {x y z : Operand} (ht : P.underlying t = some (.slice e)) (hm : sizeT P e = some m) (ho : o.op = .slice t x none (some y) (some z)) : WSound P B0 W0 μ s w o .sl3 [x, y, z] := by
  intro ρ vs v s' h hv hp
  obtain ⟨u1, u2, u3, rfl, h1, h2, h3⟩ := hv.inv3
  generalize hx : ρ x = x' at h1
  generalize hy : ρ y = y' at h2
  generalize hz : ρ z = z' at h3
  cases h1 <;> (try (simp [wop] at hp; done))
  case nilSlice =>
    cases h2 <;> (try (simp [wop] at hp; done))
    cases h3 <;> (try (simp [wop] at hp; done))
    simp only [wop] at hp
    split at hp
    · rename_i hc
      obtain ⟨rfl, rfl⟩ := hc
      simp at hp
      obtain ⟨rfl, rfl⟩ := hp
      exact ⟨.slice none 0 0, w, .inl (by simp [execOp, ho, hx, hy, hz, Instr.sliceAt, Instr.slice, Instr.sliceBounds, Instr.sliceBound, asIntOf, r_under w ht, r_size w hm]), μ, Agree.refl _ _, h, .nilSlice⟩
    · cases hp
  case void ad =>
    cases h2 <;> (try (simp [wop] at hp; done))
    cases h3 <;> (try (simp [wop] at hp; done))
  case slice i off off' len cap cap' hi q0 q1 q2 q3 q4 q5 =>
    cases h2 <;> (try (simp [wop] at hp; done))
    cases h3 <;> (try (simp [wop] at hp; done))
    simp only [wop] at hp
    split at hp
    · rename_i hc
      obtain ⟨rfl, rfl, hcap⟩ := hc
      split at hp
      · rename_i cs g ro hget
        simp at hp
        obtain ⟨rfl, rfl⟩ := hp
        have ha := upd_agree (μ := μ) ⟨(μ i).block, off', off', 0⟩ s.next
        refine ⟨.slice (some ⟨(μ i).block, off', none⟩) 0 0, w, .inl (by simp [execOp, ho, hx, hy, hz, Instr.sliceAt, Instr.slice, Instr.sliceBounds, Instr.sliceBound, asIntOf, r_under w ht, r_size w hm]), _, ha, h.rename (.row [] 0 true) ⟨(μ i).block, off', off', 0⟩ (h.known i _ hget).2.1 ⟨by rw [upd_same], by rw [upd_same]; simp, fun j v hj => by simp at hj, fun _ => .inr rfl, fun hr => by simp at hr⟩ (fun hh => by simp [AObj.owned] at hh), ?_⟩
        have := VR.slice (μ := upd μ s.next ⟨(μ i).block, off', off', 0⟩) (n := s.next + 1) s.next 0 off' 0 0 0 (by omega) (Nat.le_refl _) (Nat.le_refl _) (fun _ => rfl) (fun _ => by simp [upd_same]) (by simp [upd_same]) (fun hh => by simp [upd_same] at hh)
        simpa [upd_same] using this
      · cases hp
    · cases hp

theorem ws_strToBytes {t1 t2 e : TypeId} {x : Operand} (h1 : P.underlying t1 = some .string) (h2 : P.underlying t2 = some (.slice e)) (he : P.underlying e = some (.int .u8)) (ho : o.op = .convert t1 t2 x) : WSound P B0 W0 μ s w o .strToBytes [x] := by
  intro ρ vs v s' h hv hp
  obtain ⟨a, rfl, ha⟩ := hv.inv1
  generalize hx : ρ x = x' at ha
  cases ha <;> simp only [wop] at hp <;> (try (cases hp; done))
  rename_i b
  · simp [St.grow] at hp
    obtain ⟨rfl, rfl⟩ := hp
    obtain ⟨cap, hcap⟩ : ∃ cap, cap = (Question.appendCap b.size 0 e).cut (w.tape w.drawn (.appendCap b.size 0 e)) := ⟨_, rfl⟩
    have hge : b.size ≤ cap := by rw [hcap]; simp only [Question.cut]; omega
    obtain ⟨cells, hcells⟩ : ∃ cells : Array Value, cells = (b.data.map fun c => Value.int .u8 c.toNat) ++ Array.replicate (cap - b.size) (.int .u8 0) := ⟨_, rfl⟩
    have hcsz : cells.size = cap := by rw [hcells]; simp; show b.data.size + _ = _; have : b.data.size = b.size := rfl; omega
    have hrun : (Conv.stringToBytes e b).run P w = .ok (.slice (some ⟨w.heap.size, 0, none⟩) b.size cap) ({ w with drawn := w.drawn + 1 }.alloc (.cells cells e (cap, cap + 1))) := by
      simp only [Conv.stringToBytes, Sem.run_bind, run_choose, Question.forced, Bool.false_eq_true, if_false, Result.andThen_ok, ← hcap, ← hcells, newRow, r_new, Sem.run_pure, markStringish, run_shape]
      have hs : ({ w with drawn := w.drawn + 1 }.alloc (.cells cells e)).shape? w.heap.size = some (e, cap) := by
        have : ({ w with drawn := w.drawn + 1 }.alloc (.cells cells e)).heap[w.heap.size]? = some (.cells cells e) := by show (w.heap.push _)[w.heap.size]? = _; simp
        simp only [World.shape?, this, hcsz]
      rw [hs]
      simp only [run_freeze, Result.andThen_ok, World.freeze]
      congr 1
      simp only [World.alloc, Nat.one_ne_zero, if_false]
      congr 1
      apply Array.ext
      · simp
      · intro j hj1 hj2
        simp only [Array.getElem_modify, Array.getElem_push]
        by_cases hj : j < w.heap.size
        · simp [hj]; intro e; omega
        · have : w.heap.size = j := by simp at hj2; omega
          simp [this]
    refine ⟨.slice (some ⟨w.heap.size, 0, none⟩) b.size cap, { w with drawn := w.drawn + 1 }.alloc (.cells cells e (cap, cap + 1)), .inl (by simp only [execOp, ho, hx, Sem.run_bind, convert, r_under w h1, r_under w h2, r_under w he, Result.andThen_ok, hrun, Sem.run_pure]), _, upd_agree _ _, (h.drew (w.drawn + 1)).newRow _ 1 cells e (cap, cap + 1) (fun j v hj => ?_) (by rw [hcsz]; simp; show b.data.size ≤ _; exact hge) (fun x hx => by rw [hcsz] at hx; simp; omega), ?_⟩
    · simp only [List.getElem?_map, Option.map_eq_some_iff] at hj
      obtain ⟨c, hc, rfl⟩ := hj
      refine ⟨.int .u8 c.toNat, ?_, .int _ _⟩
      have hlt : j < b.data.size := by
        rcases Nat.lt_or_ge j b.data.size with hh | hh
        · exact hh
        · rw [List.getElem?_eq_none (by simpa using hh)] at hc; cases hc
      rw [hcells, Array.getElem?_append_left (by simpa using hlt)]
      simp at hc
      simp [hc]
    · have := VR.slice (μ := upd μ s.next ⟨w.heap.size, 0, cells.size, 1⟩) (n := s.next + 1) s.next 0 0 b.size b.size cap (by omega) (Nat.le_refl _) hge (fun hh => by simp [upd_same] at hh) (fun _ => by simp [upd_same]) (by simp [upd_same]) (fun _ => by simp [upd_same, hcsz])
      simpa [upd_same] using this

end Go.Am
