/-
  What the heaps' relation bears: new blocks, stores, maps' turns, a slot given up for one that has grown in place.
-/
import Derived.Test.YtdmemibnphcedaaGreatDoorAmRel
set_option linter.unusedSimpArgs false
set_option linter.unusedVariables false
set_option maxRecDepth 10000
namespace Go.Am
open Go.RowKit (Below)

variable {B0 : Nat} {W0 : World} {μ : Nat → Spot} {s : St} {w : World}

def upd (μ : Nat → Spot) (i : Nat) (sp : Spot) : Nat → Spot := fun j => if j = i then sp else μ j

theorem upd_same (i : Nat) (sp : Spot) : upd μ i sp i = sp := by simp [upd]
theorem upd_agree (sp : Spot) (n : Nat) : Agree μ n (upd μ n sp) (n + 1) := ⟨by omega, fun i hi => by simp [upd]; omega⟩

theorem ER.mono {μ' : Nat → Spot} {n n' c c' : Nat} (ha : Agree μ n μ' n') (hc : c ≤ c') : ∀ {es : List (Value × Value × Nat)} {es' : List MapEntry}, ER μ n c es es' → ER μ' n' c' es es'
  | [], [], _ => trivial
  | _ :: _, _ :: _, ⟨h1, h2, h3, h4, h5⟩ => ⟨h1.mono ha, h2.mono ha, h3, by omega, h5.mono ha hc⟩

theorem IdOk.mono {μ' : Nat → Spot} {n n' : Nat} {w' : World} {i : Nat} {o : AObj} (ha : Agree μ n μ' n') (hi : i < n) (hb : w'.heap[(μ i).block]? = w.heap[(μ i).block]?) (h : IdOk B0 μ n w i o) : IdOk B0 μ' n' w' i o := by
  have hm := ha.2 i hi
  cases o with
  | row cs g ro =>
    obtain ⟨h1, h2, h3, h4, h5⟩ := h
    refine ⟨by rw [hm]; exact h1, by rw [hm]; exact h2, fun j v hj => ?_, by rw [hm]; exact h4, fun hr => ?_⟩
    · obtain ⟨v', hv, hr⟩ := h3 j v hj
      exact ⟨v', by rw [hm, World.cell?_of_block (w := w) hb]; exact hv, hr.mono ha⟩
    · obtain ⟨h6, h7, h8⟩ := h5 hr
      refine ⟨by rw [hm]; exact h6, fun x hx1 hx2 => ?_, by rw [hm]; exact h8⟩
      rw [hm] at hx1 hx2 ⊢
      rw [World.cell?_of_block (w := w) hb, World.frozen?_of_block (w := w) hb]
      exact h7 x hx1 hx2
  | map es clock =>
    obtain ⟨h1, es', h2, h3⟩ := h
    exact ⟨by rw [hm]; exact h1, es', by rw [hm, hb]; exact h2, h3.mono ha (Nat.le_refl _)⟩
  | strIter b pos =>
    obtain ⟨h1, h2, h3⟩ := h
    exact ⟨by rw [hm]; exact h1, by rw [hm]; exact h2, by rw [hm, hb]; exact h3⟩
  | mapIter m since seen last =>
    obtain ⟨h1, h2, h3, h4⟩ := h
    refine ⟨by rw [hm]; exact h1, by rw [hm]; exact h2, fun r hr => Nat.lt_of_lt_of_le (h3 r hr) ha.1, ?_⟩
    rw [hm, hb, h4]
    cases m with
    | none => rfl
    | some r => simp [ha.2 r (h3 r rfl)]

/-- the worlds' heaps are one -/
theorem Rel.heap {w' : World} (h : Rel B0 W0 μ s w) (hh : w'.heap = w.heap) (ho : w'.os = w.os) (ht : w'.tape = w.tape) (hu : w'.output = w.output) : Rel B0 W0 μ s w' :=
  ⟨h.low, ⟨ho.trans h.below.os, ht.trans h.below.tape, hu.trans h.below.output, by rw [hh]; exact h.below.size, fun k hk => by rw [hh]; exact h.below.block k hk⟩,
    fun i o hi => by
      obtain ⟨h1, h2, h3⟩ := h.known i o hi
      exact ⟨h1, by rw [hh]; exact h2, h3.mono (Agree.refl _ _) h1 (by rw [hh])⟩, h.apart⟩

theorem Rel.drew (h : Rel B0 W0 μ s w) (k : Nat) : Rel B0 W0 μ s { w with drawn := k } := h.heap rfl rfl rfl rfl

theorem Rel.size (h : Rel B0 W0 μ s w) : B0 ≤ w.heap.size := Nat.le_trans h.low h.below.size

theorem heap_alloc_lt (w : World) (c : Obj) {k : Nat} (h : k < w.heap.size) : (w.alloc c).heap[k]? = w.heap[k]? := Below.heap_alloc w c k h

/-- a new block -/
theorem Rel.new (h : Rel B0 W0 μ s w) (o : AObj) (c : Obj) (sp : Spot) (hsp : sp.block = w.heap.size) (hid : IdOk B0 (upd μ s.next sp) (s.next + 1) (w.alloc c) s.next o) :
    Rel B0 W0 (upd μ s.next sp) (s.new o) (w.alloc c) := by
  have ha := upd_agree (μ := μ) sp s.next
  refine ⟨h.low, h.below.alloc h.size c, fun i x hi => ?_, fun i j oi oj hij hi hj h1 h2 => ?_⟩
  · rw [St.get_new] at hi
    by_cases hn : s.next = i
    · subst hn
      simp at hi
      subst hi
      exact ⟨by simp, by rw [upd_same, hsp]; simp, hid⟩
    · simp [hn] at hi
      obtain ⟨k1, k2, k3⟩ := h.known i x hi
      refine ⟨by simp; omega, ?_, k3.mono ha k1 (heap_alloc_lt _ _ k2)⟩
      rw [ha.2 i k1]
      simp
      omega
  · rw [St.get_new] at hi hj
    have old : ∀ (k : Nat) (x : AObj), s.get k = some x → k < s.next ∧ (upd μ s.next sp k).block < w.heap.size := fun k x hk => by
      obtain ⟨k1, k2, _⟩ := h.known k x hk
      exact ⟨k1, by rw [ha.2 k k1]; exact k2⟩
    by_cases hn : s.next = i
    · subst hn
      simp [hij] at hj
      have := old j oj hj
      rw [upd_same, hsp]
      omega
    · by_cases hm : s.next = j
      · subst hm
        simp [hn] at hi
        have := old i oi hi
        rw [upd_same, hsp]
        omega
      · simp [hn] at hi
        simp [hm] at hj
        rw [ha.2 i (old i oi hi).1, ha.2 j (old j oj hj).1]
        exact h.apart i j oi oj hij hi hj h1 h2

/-- a new row of cells, all of it known, or with more behind it -/
theorem Rel.newRow (h : Rel B0 W0 μ s w) (cs : List Value) (g : Nat) (c : Array Value) (t : TypeId) (fr : Nat × Nat)
    (hc : ∀ (j : Nat) (v : Value), cs[j]? = some v → ∃ v', c[j]? = some v' ∧ VR μ s.next v v') (hl : cs.length ≤ c.size) (hf : ∀ x, x < c.size → ¬ (fr.1 ≤ x ∧ x < fr.2)) :
    Rel B0 W0 (upd μ s.next ⟨w.heap.size, 0, c.size, g⟩) (s.new (.row cs g false)) (w.alloc (.cells c t fr)) := by
  have ha := upd_agree (μ := μ) ⟨w.heap.size, 0, c.size, g⟩ s.next
  have hcell : ∀ x, (w.alloc (.cells c t fr)).cell? ⟨w.heap.size, x, none⟩ = c[x]? := fun x => by
    have : (w.alloc (.cells c t fr)).heap[w.heap.size]? = some (.cells c t fr) := by show (w.heap.push _)[w.heap.size]? = _; simp
    simp only [World.cell?, this]; rfl
  refine h.new _ _ _ rfl ?_
  unfold IdOk
  rw [upd_same]
  refine ⟨rfl, by simpa using hl, fun j v hj => ?_, fun hr => by simp at hr, fun _ => ⟨h.size, fun x _ hx => ?_, fun _ => rfl⟩⟩
  · obtain ⟨v', h1, h2⟩ := hc j v hj
    exact ⟨v', by simp only [Nat.zero_add]; rw [hcell]; exact h1, h2.mono ha⟩
  · simp only at hx
    refine ⟨by rw [hcell]; simp [hx], ?_⟩
    have hh : (w.alloc (.cells c t fr)).heap[w.heap.size]? = some (.cells c t fr) := by show (w.heap.push _)[w.heap.size]? = _; simp
    have := hf x hx
    simp only [World.frozen?, hh]
    simpa using this

/-- what owns its block owns it alone: another name in that block has no cells -/
theorem Rel.alone (h : Rel B0 W0 μ s w) {i j : Nat} {oi oj : AObj} (hij : j ≠ i) (hi : s.get i = some oi) (hj : s.get j = some oj) (hown : oi.owned = true) (hb : (μ j).block = (μ i).block) :
    ∃ g, oj = .row [] g true := by
  cases hoj : oj.owned with
  | true => exact absurd hb (h.apart j i oj oi hij hj hi hoj hown)
  | false =>
    cases oj with
    | row cs g ro =>
      cases ro with
      | false => simp [AObj.owned] at hoj
      | true =>
        have k := (h.known j _ hj).2.2.2.2.2.1 rfl
        have hB : B0 ≤ (μ i).block := by
          have := (h.known i oi hi).2.2
          cases oi with
          | row cs' g' ro' =>
            cases ro' with
            | true => simp [AObj.owned] at hown
            | false => exact (this.2.2.2.2 rfl).1
          | map es c => exact this.1
          | strIter b p => exact this.1
          | mapIter a b c d => exact this.1
        rcases k with k | k
        · omega
        · subst k; exact ⟨g, rfl⟩
    | _ => simp [AObj.owned] at hoj

/-- the block of one name turns; the others stay -/
theorem Rel.turn (h : Rel B0 W0 μ s w) {i : Nat} {oi : AObj} (hi : s.get i = some oi) (hown : oi.owned = true) (o' : AObj) {w' : World}
    (hos : w'.os = w.os) (htape : w'.tape = w.tape) (hout : w'.output = w.output) (hsize : w'.heap.size = w.heap.size)
    (hblk : ∀ k, k ≠ (μ i).block → w'.heap[k]? = w.heap[k]?) (hid : IdOk B0 μ s.next w' i o') : Rel B0 W0 μ (s.put i (some o')) w' := by
  have hB : B0 ≤ (μ i).block := by
    have := (h.known i oi hi).2.2
    cases oi with
    | row cs' g' ro' =>
      cases ro' with
      | true => simp [AObj.owned] at hown
      | false => exact (this.2.2.2.2 rfl).1
    | map es c => exact this.1
    | strIter b p => exact this.1
    | mapIter a b c d => exact this.1

  refine ⟨h.low, h.below.trans ⟨hos, htape, hout, by omega, fun k hk => hblk k (by omega)⟩, fun j x hj => ?_, fun j k oj ok hjk hj hk h1 h2 => ?_⟩
  · rw [St.get_put] at hj
    by_cases hij : i = j
    · subst hij
      simp at hj
      subst hj
      exact ⟨(h.known i oi hi).1, by rw [hsize]; exact (h.known i oi hi).2.1, hid⟩
    · simp [hij] at hj
      obtain ⟨k1, k2, k3⟩ := h.known j x hj
      refine ⟨k1, by rw [hsize]; exact k2, ?_⟩
      by_cases hb : (μ j).block = (μ i).block
      · obtain ⟨g, rfl⟩ := h.alone (fun e => hij e.symm) hi hj hown hb
        obtain ⟨m1, m2, _, _, _⟩ := k3
        exact ⟨m1, m2, fun j v hj => by simp at hj, fun _ => Or.inr rfl, fun hr => by simp at hr⟩
      · exact k3.mono (Agree.refl _ _) k1 (hblk _ hb)
  · rw [St.get_put] at hj hk
    have own : ∀ (y : Nat) (x : AObj), i ≠ y → s.get y = some x → x.owned = true → (μ y).block ≠ (μ i).block := fun y x hy hx ho => h.apart y i x oi (fun e => hy e.symm) hx hi ho hown
    by_cases hij : i = j
    · subst hij
      simp [hjk] at hk
      exact fun e => own k ok hjk hk h2 e.symm
    · by_cases hik : i = k
      · subst hik
        simp [hij] at hj
        exact own j oj hij hj h1
      · simp [hij] at hj
        simp [hik] at hk
        exact h.apart j k oj ok hjk hj hk h1 h2

theorem setCells_fields (b : Nat) : ∀ (vs : List Value) (o : Nat) (w : World), (w.setCells b o vs).os = w.os ∧ (w.setCells b o vs).tape = w.tape ∧ (w.setCells b o vs).output = w.output ∧ (w.setCells b o vs).heap.size = w.heap.size ∧
    ∀ k, k ≠ b → (w.setCells b o vs).heap[k]? = w.heap[k]?
  | [], _, _ => ⟨rfl, rfl, rfl, rfl, fun _ _ => rfl⟩
  | v :: r, o, w => by
    obtain ⟨h1, h2, h3, h4, h5⟩ := setCells_fields b r (o + 1) (w.setCell ⟨b, o, none⟩ v)
    exact ⟨h1, h2, h3, by rw [World.setCells, h4]; simp, fun k hk => by rw [World.setCells, h5 k hk]; exact Below.heap_setCell _ _ _ _ hk⟩

theorem lputs_get (l vs : List Value) (o j : Nat) (h : o + vs.length ≤ l.length) : (lputs l o vs)[j]? = if j < o then l[j]? else if j < o + vs.length then vs[j - o]? else l[j]? := by
  unfold lputs
  split
  · rename_i h1
    rw [List.append_assoc, List.getElem?_append_left (by simp; omega)]
    simp [h1]
  · rename_i h1
    split
    · rename_i h2
      rw [List.append_assoc, List.getElem?_append_right (by simp; omega), List.getElem?_append_left (by simp; omega)]
      congr 1
      simp; omega
    · rename_i h2
      rw [List.getElem?_append_right (by simp; omega)]
      simp only [List.getElem?_drop, List.length_append, List.length_take]
      congr 1
      omega
theorem lputs_length (l vs : List Value) (o : Nat) (h : o + vs.length ≤ l.length) : (lputs l o vs).length = l.length := by
  unfold lputs
  simp
  omega

/-- the cells of a row, as the first machine has them -/
theorem IdOk.cellAt {i : Nat} {cs : List Value} {g : Nat} {ro : Bool} {n : Nat} (h : IdOk B0 μ n w i (.row cs g ro)) {j : Nat} {v : Value} (hj : cs[j]? = some v) :
    ∃ v', w.cell? ⟨(μ i).block, (μ i).base + j, none⟩ = some v' ∧ VR μ n v v' := h.2.2.1 j v hj

/-- a store of cells into a row that is owned, from a place on; perhaps beyond what is known of it -/
theorem IdOk.stored {i : Nat} {cs : List Value} {g n : Nat} (h : IdOk B0 μ n w i (.row cs g false)) (o : Nat) (vs vs' : List Value) (hv : VRs μ n vs vs') (ho : o + vs.length ≤ cs.length) :
    IdOk B0 μ n (w.setCells (μ i).block ((μ i).base + o) vs') i (.row (lputs cs o vs) g false) := by
  obtain ⟨h1, h2, h3, _, h5⟩ := h
  obtain ⟨h6, h7, h8⟩ := h5 rfl
  have hlen := hv.length
  refine ⟨h1, by rw [lputs_length _ _ _ ho]; exact h2, fun j v hj => ?_, fun hr => by simp at hr, fun _ => ⟨h6, fun x hx1 hx2 => ?_, h8⟩⟩
  · rw [lputs_get _ _ _ _ ho] at hj
    by_cases c1 : j < o
    · simp only [c1, if_true] at hj
      obtain ⟨v', k1, k2⟩ := h3 j v hj
      exact ⟨v', by rw [World.cell?_setCells_out _ _ _ _ _ (fun _ _ => Or.inl (by simp; omega))]; exact k1, k2⟩
    · by_cases c2 : j < o + vs.length
      · simp only [c1, c2, if_false, if_true] at hj
        obtain ⟨v', k1, k2⟩ := hv.get hj
        refine ⟨v', ?_, k2⟩
        have hin := World.cell?_setCells_in (μ i).block vs' ((μ i).base + o) w (fun k hk => (h7 _ (by omega) (by omega)).1) (j - o) (by omega)
        rw [show (μ i).base + j = (μ i).base + o + (j - o) by omega, hin, ← k1]
        simp [show j - o < vs'.length by omega]
      · simp only [c1, c2, if_false] at hj
        obtain ⟨v', k1, k2⟩ := h3 j v hj
        exact ⟨v', by rw [World.cell?_setCells_out _ _ _ _ _ (fun _ _ => Or.inr (by simp; omega))]; exact k1, k2⟩
  · obtain ⟨k1, k2⟩ := h7 x hx1 hx2
    refine ⟨?_, by rw [World.frozen?_setCells]; exact k2⟩
    by_cases c : (μ i).base + o ≤ x ∧ x < (μ i).base + o + vs'.length
    · have hin := World.cell?_setCells_in (μ i).block vs' ((μ i).base + o) w (fun k hk => (h7 _ (by omega) (by omega)).1) (x - ((μ i).base + o)) (by omega)
      rw [show (μ i).base + o + (x - ((μ i).base + o)) = x by omega] at hin
      rw [hin]; rfl
    · rw [World.cell?_setCells_out _ _ _ _ _ (fun _ _ => by simp; omega)]
      exact k1

theorem Rel.stored (h : Rel B0 W0 μ s w) {i : Nat} {cs : List Value} {g : Nat} (hi : s.get i = some (.row cs g false)) (o : Nat) (vs vs' : List Value) (hv : VRs μ s.next vs vs') (ho : o + vs.length ≤ cs.length) :
    Rel B0 W0 μ (s.put i (some (.row (lputs cs o vs) g false))) (w.setCells (μ i).block ((μ i).base + o) vs') := by
  obtain ⟨f1, f2, f3, f4, f5⟩ := setCells_fields (μ i).block vs' ((μ i).base + o) w
  exact h.turn hi rfl _ f1 f2 f3 f4 f5 ((h.known i _ hi).2.2.stored o vs vs' hv ho)

/-- a store into the block of a map, an iterator -/
theorem Rel.setObj (h : Rel B0 W0 μ s w) {i : Nat} {oi : AObj} (hi : s.get i = some oi) (hown : oi.owned = true) (o' : AObj) (c : Obj)
    (hid : IdOk B0 μ s.next { w with heap := w.heap.setIfInBounds (μ i).block c } i o') : Rel B0 W0 μ (s.put i (some o')) { w with heap := w.heap.setIfInBounds (μ i).block c } :=
  h.turn hi hown o' rfl rfl rfl (by simp) (fun k hk => by simp [Ne.symm hk]) hid

/-- a name is given up -/
theorem Rel.kill (h : Rel B0 W0 μ s w) (i : Nat) : Rel B0 W0 μ (s.put i none) w :=
  ⟨h.low, h.below, fun j x hj => by
      rw [St.get_put] at hj
      by_cases hij : i = j
      · simp [hij] at hj
      · simp [hij] at hj; exact h.known j x hj,
    fun j k oj ok hjk hj hk h1 h2 => by
      rw [St.get_put] at hj hk
      by_cases hij : i = j
      · simp [hij] at hj
      · by_cases hik : i = k
        · simp [hik] at hk
        · simp [hij] at hj; simp [hik] at hk
          exact h.apart j k oj ok hjk hj hk h1 h2⟩

/-- a new name for cells that are there, in a block that no other name owns -/
theorem Rel.rename (h : Rel B0 W0 μ s w) (o : AObj) (sp : Spot) (hb : sp.block < w.heap.size) (hid : IdOk B0 (upd μ s.next sp) (s.next + 1) w s.next o)
    (hal : o.owned = true → ∀ j oj, s.get j = some oj → oj.owned = true → (μ j).block ≠ sp.block) : Rel B0 W0 (upd μ s.next sp) (s.new o) w := by
  have ha := upd_agree (μ := μ) sp s.next
  refine ⟨h.low, h.below, fun i x hi => ?_, fun i j oi oj hij hi hj h1 h2 => ?_⟩
  · rw [St.get_new] at hi
    by_cases hn : s.next = i
    · subst hn
      simp at hi
      subst hi
      exact ⟨by simp, by rw [upd_same]; exact hb, hid⟩
    · simp [hn] at hi
      obtain ⟨k1, k2, k3⟩ := h.known i x hi
      exact ⟨by simp; omega, by rw [ha.2 i k1]; exact k2, k3.mono ha k1 rfl⟩
  · rw [St.get_new] at hi hj
    by_cases hn : s.next = i
    · subst hn
      simp at hi; subst hi
      simp [hij] at hj
      rw [upd_same, ha.2 j (h.known j oj hj).1]
      exact fun e => hal h1 j oj hj h2 e.symm
    · by_cases hm : s.next = j
      · subst hm
        simp at hj; subst hj
        simp [hn] at hi
        rw [upd_same, ha.2 i (h.known i oi hi).1]
        exact hal h2 i oi hi h1
      · simp [hn] at hi
        simp [hm] at hj
        rw [ha.2 i (h.known i oi hi).1, ha.2 j (h.known j oj hj).1]
        exact h.apart i j oi oj hij hi hj h1 h2

end Go.Am
