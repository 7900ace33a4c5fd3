/-
  Arguments taken in, with bounds by a measure of what was read.
-/
import Derived.Test.YtjomiadmminhfaaGreatDoorSFilClaimPart41
set_option linter.unusedSimpArgs false
set_option linter.unusedVariables false
set_option maxRecDepth 10000
namespace Go.Am
open Go.RowKit (Below)
open Go.RowKit Go.ChangeShapes Go.WideShapes

/-- a measure of data: no part is greater than the whole -/
structure MB {H : Type} (μB : DataW H → Nat) : Prop where
  len : ∀ (elems spare : List (DataW H)), elems.length ≤ μB (.slice elems spare)
  elem : ∀ (elems spare : List (DataW H)) (d : DataW H), d ∈ elems → μB d ≤ μB (.slice elems spare)
  part : ∀ (parts : List (DataW H)) (d : DataW H), d ∈ parts → μB d ≤ μB (.agg parts)
  str : ∀ l : List UInt8, l.length ≤ μB (.lit (.string l))

section
variable {H : Type} {enc : TypeId × Value → H} {P : Program} {B0 : Nat} {W0 : World} {μ : Nat → Spot} {s : St} {w : World} {μB : DataW H → Nat}

/-- a slice whose elements take a cell each, as the reader sees it: nil; empty with no room (it may lie anywhere); or cells that are there -/
theorem slice_inB (HB : MB μB) {t e : TypeId} {n base : Nat} {held : Bool} {x : Value} {y : DataW H × List MemPlace} (ht : P.underlying t = some (.slice e)) (hc : P.cellsOf e = 1) (hf : DataW.trod enc P w base (fun _ => true) held n t [x] = some y) :
    x = .slice none 0 0 ∨ (∃ a, x = .slice (some a) 0 0) ∨
    ∃ b off len cap m, x = .slice (some ⟨b, off, none⟩) len cap ∧ len ≤ cap ∧ cap ≤ maxLen ∧ b < w.heap.size ∧ ∀ j, j < len → ∃ v z, w.cell? ⟨b, off + j, none⟩ = some v ∧ DataW.trod enc P w base (fun _ => true) held m e [v] = some z ∧ len ≤ μB y.1 ∧ μB z.1 ≤ μB y.1 := by
  rcases DataW.trod_slice ht hf with ⟨h0, _⟩ | ⟨a, len, cap, elems, rest, m, _, hcs, hy, hba, hlc, hcm, hel, helm, hsp, _⟩
  · exact .inl (by simpa using h0)
  · obtain rfl : x = .slice (some a) len cap := by simpa using hcs
    by_cases hc0 : cap = 0
    · subst hc0
      obtain rfl : len = 0 := by omega
      exact .inr (.inl ⟨a, rfl⟩)
    have at0 : ∃ v, w.cell? a = some v := by
      have h0 : a.add (0 * P.cellsOf e) = a := by unfold Addr.add; simp
      by_cases hl : 0 < len
      · have := helm 0 hl
        rw [List.getElem?_eq_getElem (by omega), Option.bind_eq_some_iff, hc] at this
        obtain ⟨cs, h1, _⟩ := this
        rw [hc] at h0
        rw [h0] at h1
        obtain ⟨v, _, hv⟩ := cells1 h1
        exact ⟨v, hv⟩
      · obtain ⟨hr, hj⟩ := hsp rfl
        have := hj 0 (by omega)
        rw [List.getElem?_eq_getElem (by omega), Option.bind_eq_some_iff, hc] at this
        obtain ⟨cs, h1, _⟩ := this
        have hl0 : len = 0 := by omega
        subst hl0
        rw [hc] at h0
        simp only [Nat.add_zero] at h1
        rw [h0] at h1
        obtain ⟨v, _, hv⟩ := cells1 h1
        exact ⟨v, hv⟩
    obtain ⟨v0, hv0⟩ := at0
    obtain ⟨k1, k2⟩ := cell_lt hv0
    obtain ⟨b, off, sp⟩ := a
    simp only at k1 k2
    subst k2
    refine .inr (.inr ⟨b, off, len, cap, m, rfl, hlc, hcm, k1, fun j hj => ?_⟩)
    have := helm j hj
    rw [List.getElem?_eq_getElem (by omega), Option.bind_eq_some_iff, hc, Nat.mul_one, add_eq] at this
    obtain ⟨cs, h1, h2⟩ := this
    obtain ⟨v, rfl, hv⟩ := cells1 h1
    refine ⟨v, _, hv, h2, ?_, ?_⟩
    · rw [hy]; have := HB.len (elems.map (·.1)) (rest.map (·.1)); rw [List.length_map] at this; simp only; omega
    · rw [hy]; exact HB.elem _ _ _ (List.mem_map_of_mem (List.getElem_mem _))

/-- a slice of texts, with bounds -/
theorem strs_inB (HB : MB μB) (h : Rel B0 W0 μ s w) (hB : B0 = w.heap.size) (h0 : 0 < s.next) {t e : TypeId} {n base : Nat} {held : Bool} {x : Value} {y : DataW H × List MemPlace} (ht : P.underlying t = some (.slice e)) (he : P.underlying e = some .string) (hc : P.cellsOf e = 1) (hf : DataW.trod enc P w base (fun _ => true) held n t [x] = some y) :
    ∃ (μ' : Nat → Spot) (s' : St) (a : Value) (qs : List ByteArray), Ext μ s μ' s' ∧ Rel B0 W0 μ' s' w ∧ VR μ' s'.next a x ∧ Cel s' a (qs.map Value.string) ∧ ow a ≤ s'.next ∧ qs.length ≤ μB y.1 ∧ ∀ q ∈ qs, q.size ≤ μB y.1 := by
  rcases slice_inB HB ht hc hf with rfl | ⟨a, rfl⟩ | ⟨b, off, len, cap, m, rfl, hlc, hcm, hb, hcell⟩
  · exact ⟨μ, s, .slice none 0 0, [], Ext.refl _ _, h, .nilSlice, .inl ⟨rfl, rfl⟩, Nat.zero_le _, Nat.zero_le _, fun q hq => by cases hq⟩
  · exact ⟨μ, s, .slice (some ⟨0, 0, some 0⟩) 0 0, [], Ext.refl _ _, h, .void a, .inr (.inr ⟨_, rfl, rfl⟩), h0, Nat.zero_le _, fun q hq => by cases hq⟩
  · obtain ⟨qs, hl, hq⟩ := choose_list (R := fun j q => w.cell? ⟨b, off + j, none⟩ = some (Value.string q) ∧ len ≤ μB y.1 ∧ q.size ≤ μB y.1) len fun j hj => by
      obtain ⟨v, z, hv, hz, b1, b2⟩ := hcell j hj
      obtain ⟨q, hq, hz2, _⟩ := DataW.trod_string he hz
      simp only [List.cons.injEq, and_true] at hq
      subst hq
      refine ⟨q, hv, b1, ?_⟩
      have := HB.str q.data.toList
      rw [hz2] at b2
      rw [Array.length_toList] at this
      exact Nat.le_trans this b2
    subst hl
    have hml : (qs.map Value.string).length = qs.length := List.length_map _
    refine ⟨_, _, .slice (some ⟨s.next, 0, none⟩) qs.length cap, qs, ext_addRo (qs.map Value.string) ⟨b, off, off + (qs.map Value.string).length, 0⟩, h.addRo (qs.map Value.string) b off hb (by omega) (fun j v hj => ?_), ?_, .inr (.inl ⟨s.next, 0, cap, qs.map Value.string, 0, true, by rw [hml], get_new_same _ _, by rw [hml]; omega, by rw [hml, List.drop_zero, List.take_of_length_le (by rw [hml]; exact Nat.le_refl _)]⟩), ?_, ?_, ?_⟩
    · simp only [List.getElem?_map, Option.map_eq_some_iff] at hj
      obtain ⟨c, hj, rfl⟩ := hj
      exact ⟨_, (hq j c hj).1, .string _⟩
    · have := VR.slice (μ := upd μ s.next ⟨b, off, off + (qs.map Value.string).length, 0⟩) (n := s.next + 1) s.next 0 off qs.length cap cap (by omega) hlc (Nat.le_refl _) (fun _ => rfl) (fun _ => by simp [upd_same]) (by simp [upd_same]) (fun hh => by simp [upd_same] at hh)
      simpa [upd_same] using this
    · show s.next + 1 ≤ s.next + 1; exact Nat.le_refl _
    · by_cases h0 : 0 < qs.length
      · exact (hq 0 _ (List.getElem?_eq_getElem h0)).2.1
      · omega
    · intro q hm
      obtain ⟨j, hj⟩ := List.getElem?_of_mem hm
      exact (hq j q hj).2.2

/-- a slice whose elements take three cells each, as the reader sees it -/
theorem slice_in3B (HB : MB μB) {t e : TypeId} {n base : Nat} {held : Bool} {x : Value} {y : DataW H × List MemPlace} (ht : P.underlying t = some (.slice e)) (hc : P.cellsOf e = 3) (hf : DataW.trod enc P w base (fun _ => true) held n t [x] = some y) :
    x = .slice none 0 0 ∨ (∃ a, x = .slice (some a) 0 0) ∨
    ∃ b off len cap m, x = .slice (some ⟨b, off, none⟩) len cap ∧ len ≤ cap ∧ cap ≤ maxLen ∧ b < w.heap.size ∧ ∀ j, j < len → ∃ v1 v2 v3 z, w.cell? ⟨b, off + j * 3, none⟩ = some v1 ∧ w.cell? ⟨b, off + j * 3 + 1, none⟩ = some v2 ∧ w.cell? ⟨b, off + j * 3 + 2, none⟩ = some v3 ∧ DataW.trod enc P w base (fun _ => true) held m e [v1, v2, v3] = some z ∧ len ≤ μB y.1 ∧ μB z.1 ≤ μB y.1 := by
  rcases DataW.trod_slice ht hf with ⟨h0, _⟩ | ⟨a, len, cap, elems, rest, m, _, hcs, hy, hba, hlc, hcm, hel, helm, hsp, _⟩
  · exact .inl (by simpa using h0)
  · obtain rfl : x = .slice (some a) len cap := by simpa using hcs
    by_cases hc0 : cap = 0
    · subst hc0
      obtain rfl : len = 0 := by omega
      exact .inr (.inl ⟨a, rfl⟩)
    have at0 : ∃ v, w.cell? a = some v := by
      have h0 : a.add (0 * P.cellsOf e) = a := by unfold Addr.add; simp
      by_cases hl : 0 < len
      · have := helm 0 hl
        rw [List.getElem?_eq_getElem (by omega), Option.bind_eq_some_iff, h0, hc] at this
        obtain ⟨cs, h1, _⟩ := this
        obtain ⟨v, _, _, _, hv, _⟩ := cells3 h1
        exact ⟨v, hv⟩
      · obtain ⟨hr, hj⟩ := hsp rfl
        have := hj 0 (by omega)
        rw [List.getElem?_eq_getElem (by omega), Option.bind_eq_some_iff] at this
        obtain ⟨cs, h1, _⟩ := this
        have hl0 : len = 0 := by omega
        subst hl0
        simp only [Nat.add_zero] at h1
        rw [h0, hc] at h1
        obtain ⟨v, _, _, _, hv, _⟩ := cells3 h1
        exact ⟨v, hv⟩
    obtain ⟨v0, hv0⟩ := at0
    obtain ⟨k1, k2⟩ := cell_lt hv0
    obtain ⟨b, off, sp⟩ := a
    simp only at k1 k2
    subst k2
    refine .inr (.inr ⟨b, off, len, cap, m, rfl, hlc, hcm, k1, fun j hj => ?_⟩)
    have := helm j hj
    rw [List.getElem?_eq_getElem (by omega), Option.bind_eq_some_iff, hc, add_eq] at this
    obtain ⟨cs, h1, h2⟩ := this
    obtain ⟨x, y', z, rfl, hx, hy', hz⟩ := cells3 h1
    rw [add_eq] at hy' hz
    refine ⟨x, y', z, _, hx, hy', hz, h2, ?_, ?_⟩
    · rw [hy]; have := HB.len (elems.map (·.1)) (rest.map (·.1)); rw [List.length_map] at this; simp only; omega
    · rw [hy]; exact HB.elem _ _ _ (List.mem_map_of_mem (List.getElem_mem _))

theorem args_inB (HB : MB μB) (h : Rel B0 W0 μ s w) (hB : B0 = w.heap.size) (h0 : 0 < s.next) {t e es : TypeId} {fs : Array Field} {f0 f1 f2 : Field} {n base : Nat} {held : Bool} {x : Value} {y : DataW H × List MemPlace}
    (ht : P.underlying t = some (.slice e)) (he : P.underlying e = some (.struct fs)) (hce : P.cellsOf e = 3) (hf0 : fs[0]? = some f0) (hf1 : fs[1]? = some f1) (hf2 : fs[2]? = some f2)
    (ho0 : f0.offset = 0) (ho1 : f1.offset = 1) (ho2 : f2.offset = 2) (hc0 : P.cellsOf f0.type = 1) (hc1 : P.cellsOf f1.type = 1) (hc2 : P.cellsOf f2.type = 1)
    (hu0 : P.underlying f0.type = some .string) (hu1 : P.underlying f1.type = some (.slice es)) (hu2 : P.underlying f2.type = some .bool) (hes : P.underlying es = some .string) (hces : P.cellsOf es = 1)
    (hf : DataW.trod enc P w base (fun _ => true) held n t [x] = some y) :
    ∃ (μ' : Nat → Spot) (s' : St) (a : Value) (rs : List Rec3), Ext μ s μ' s' ∧ Rel B0 W0 μ' s' w ∧ VR μ' s'.next a x ∧ ow a ≤ s'.next ∧ Recs s' a rs ∧ rs.length ≤ μB y.1 ∧ ∀ r ∈ rs, r.nm.size ≤ μB y.1 ∧ r.vals.length ≤ μB y.1 ∧ ∀ v ∈ r.vals, v.size ≤ μB y.1 := by
  rcases slice_in3B HB ht hce hf with rfl | ⟨a, rfl⟩ | ⟨b, off, len, cap, m, rfl, hlc, hcm, hb, hcell⟩
  · exact ⟨μ, s, .slice none 0 0, [], Ext.refl _ _, h, .nilSlice, Nat.zero_le _, ⟨.inl ⟨⟨_, rfl⟩, rfl⟩, fun r hr => by cases hr⟩, Nat.zero_le _, fun r hr => by cases hr⟩
  · exact ⟨μ, s, .slice (some ⟨0, 0, some 0⟩) 0 0, [], Ext.refl _ _, h, .void a, h0, ⟨.inl ⟨⟨_, rfl⟩, rfl⟩, fun r hr => by cases hr⟩, Nat.zero_le _, fun r hr => by cases hr⟩
  · have key : ∀ k, k ≤ len → ∃ (μ' : Nat → Spot) (s' : St) (rs : List Rec3), Ext μ s μ' s' ∧ Rel B0 W0 μ' s' w ∧ rs.length = k ∧ ∀ (j : Nat) r, rs[j]? = some r → (w.cell? ⟨b, off + j * 3, none⟩ = some (.string r.nm) ∧ (∃ v, w.cell? ⟨b, off + j * 3 + 1, none⟩ = some v ∧ VR μ' s'.next r.vv v) ∧ w.cell? ⟨b, off + j * 3 + 2, none⟩ = some (.bool r.set)) ∧ Cel s' r.vv (r.vals.map Value.string) ∧ oneCell r.vv = true ∧ ow r.vv ≤ s'.next ∧ len ≤ μB y.1 ∧ r.nm.size ≤ μB y.1 ∧ r.vals.length ≤ μB y.1 ∧ ∀ v ∈ r.vals, v.size ≤ μB y.1 := by
      intro k
      induction k with
      | zero => exact fun _ => ⟨μ, s, [], Ext.refl _ _, h, rfl, fun j a hj => by simp at hj⟩
      | succ k ih =>
        intro hk
        obtain ⟨μ1, s1, rs, x1, r1, hl, hall⟩ := ih (by omega)
        obtain ⟨v1, v2, v3, z, hv1, hv2, hv3, hz, bl1, bl2⟩ := hcell k (by omega)
        obtain ⟨xs, m', _, hzx, _, hxl, hxs⟩ := DataW.trod_struct he hz
        have hn : xs.length = 3 ∨ 3 ≤ xs.length := by
          right
          rw [hxl]
          exact (Array.getElem?_eq_some_iff.1 hf2).1
        have hx3 : 3 ≤ xs.length := by omega
        have q0 := hxs 0 f0 hf0
        have q1 := hxs 1 f1 hf1
        have q2 := hxs 2 f2 hf2
        rw [ho0, hc0, List.getElem?_eq_getElem (by omega)] at q0
        rw [ho1, hc1, List.getElem?_eq_getElem (by omega)] at q1
        rw [ho2, hc2, List.getElem?_eq_getElem (by omega)] at q2
        simp only [List.drop_zero, List.take_succ_cons, List.take_zero, List.drop_succ_cons] at q0 q1 q2
        obtain ⟨nm, e1, ez0, _⟩ := DataW.trod_string hu0 q0
        obtain ⟨st, e3, _⟩ := DataW.trod_bool hu2 q2
        simp only [List.cons.injEq, and_true] at e1 e3
        subst e1 e3
        have hpart : ∀ (i : Nat) (hi : i < xs.length), μB (xs[i]'hi).1 ≤ μB y.1 := fun i hi => by
          refine Nat.le_trans ?_ bl2
          rw [hzx]
          exact HB.part _ _ (List.mem_map_of_mem (List.getElem_mem _))
        have hnmb : nm.size ≤ μB y.1 := by
          have h1 := hpart 0 (by omega)
          rw [ez0] at h1
          have h2 := HB.str nm.data.toList
          rw [Array.length_toList] at h2
          exact Nat.le_trans h2 h1
        obtain ⟨μ2, s2, a, qs, x2, r2, hva, hca, hoa, hqb1, hqb2⟩ := strs_inB HB r1 hB (Nat.lt_of_lt_of_le h0 x1.agree.1) hu1 hes hces q1
        have hp1 := hpart 1 (by omega)
        have hone : oneCell a = true := by
          rcases hca with ⟨rfl, _⟩ | ⟨_, _, _, _, _, _, rfl, _⟩ | ⟨_, rfl, _⟩ <;> rfl
        refine ⟨μ2, s2, rs ++ [⟨nm, a, qs, st⟩], x1.trans x2, r2, by simp [hl], fun j a' hj => ?_⟩
        rcases Nat.lt_or_ge j rs.length with hlt | hge
        · rw [List.getElem?_append_left hlt] at hj
          obtain ⟨⟨p1, ⟨v', p2, p3⟩, p4⟩, p5, p6, p7, p8⟩ := hall j a' hj
          exact ⟨⟨p1, ⟨v', p2, p3.mono x2.agree⟩, p4⟩, p5.keep fun i hi => x2.keep i (by omega), p6, Nat.le_trans p7 x2.agree.1, p8⟩
        · rw [List.getElem?_append_right hge] at hj
          obtain ⟨k1, k2⟩ := List.getElem?_eq_some_iff.1 hj
          simp at k1
          have : j = k := by omega
          subst this
          simp [hl] at k2
          subst k2
          exact ⟨⟨hv1, ⟨v2, hv2, hva⟩, hv3⟩, hca, hone, hoa, bl1, hnmb, Nat.le_trans hqb1 hp1, fun v hv => Nat.le_trans (hqb2 v hv) hp1⟩
    obtain ⟨μ1, s1, rs, x1, r1, hl, hall⟩ := key len (Nat.le_refl _)
    subst hl
    refine ⟨_, _, .slice (some ⟨s1.next, 0, none⟩) rs.length cap, rs, x1.trans (ext_addRo (recCells rs) ⟨b, off, off + (recCells rs).length, 0⟩), r1.addRo (recCells rs) b off hb (by omega) (fun j v hj => ?_), ?_, ?_, ⟨.inr ⟨s1.next, cap, rfl, get_new_same _ _, Nat.lt_succ_self _⟩, fun r hr => ?_⟩, ?_, fun r hr => ?_⟩
    · obtain ⟨q, r, hq, hv⟩ := recCells_of rs j v hj
      obtain ⟨⟨p1, ⟨v', p2, p3⟩, p4⟩, _⟩ := hall q r hq
      rcases hv with ⟨rfl, rfl⟩ | ⟨rfl, rfl⟩ | ⟨rfl, rfl⟩
      · exact ⟨_, p1, .string _⟩
      · exact ⟨_, p2, p3⟩
      · exact ⟨_, p4, .bool _⟩
    · have := VR.slice (μ := upd μ1 s1.next ⟨b, off, off + (recCells rs).length, 0⟩) (n := s1.next + 1) s1.next 0 off rs.length cap cap (by omega) hlc (Nat.le_refl _) (fun _ => rfl) (fun _ => by simp [upd_same]) (by simp [upd_same]) (fun hh => by simp [upd_same] at hh)
      simpa [upd_same] using this
    · show s1.next + 1 ≤ s1.next + 1; exact Nat.le_refl _
    · obtain ⟨j, hj⟩ := List.getElem?_of_mem hr
      obtain ⟨_, p5, p6, p7, _⟩ := hall j r hj
      exact ⟨p5.keep fun i hi => get_new_ne _ _ _ (by omega), p6, Nat.le_succ_of_le p7⟩
    · by_cases h0 : 0 < rs.length
      · exact (hall 0 _ (List.getElem?_eq_getElem h0)).2.2.2.2.1
      · omega
    · obtain ⟨j, hj⟩ := List.getElem?_of_mem hr
      exact (hall j r hj).2.2.2.2.2
end
end Go.Am
