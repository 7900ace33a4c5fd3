/-
  Arguments taken in: a slice of records of a text, a slice of texts and a flag.
-/
import Derived.Test.YtjomiadmminhfaaGreatDoorSFilClaimPart40
set_option linter.unusedSimpArgs false
set_option linter.unusedVariables false
set_option maxRecDepth 10000
namespace Go.Am
open Go.RowKit (Below)
open Go.RowKit Go.ChangeShapes Go.WideShapes

structure Rec3 where
  nm : ByteArray
  vv : Value
  vals : List ByteArray
  set : Bool
def Rec3.cells (r : Rec3) : List Value := [.string r.nm, r.vv, .bool r.set]
def recCells (rs : List Rec3) : List Value := rs.flatMap Rec3.cells
theorem recCells_len : ∀ rs : List Rec3, (recCells rs).length = rs.length * 3
  | [] => rfl
  | r :: rs => by
    have := recCells_len rs
    simp only [recCells, List.flatMap_cons, List.length_append, List.length_cons] at this ⊢
    rw [this]
    show 3 + rs.length * 3 = _
    omega
theorem recCells_at : ∀ (rs : List Rec3) (q : Nat) (r : Rec3), rs[q]? = some r → (recCells rs)[q * 3]? = some (.string r.nm) ∧ (recCells rs)[q * 3 + 1]? = some r.vv ∧ (recCells rs)[q * 3 + 2]? = some (.bool r.set) ∧ ((recCells rs).drop (q * 3)).take 3 = r.cells
  | [], q, r, h => by simp at h
  | x :: rs, 0, r, h => by
    simp at h; subst h
    exact ⟨rfl, rfl, rfl, rfl⟩
  | x :: rs, q + 1, r, h => by
    obtain ⟨h1, h2, h3, h4⟩ := recCells_at rs q r (by simpa using h)
    have e : recCells (x :: rs) = .string x.nm :: x.vv :: .bool x.set :: recCells rs := rfl
    rw [e, show (q + 1) * 3 = q * 3 + 1 + 1 + 1 by omega, show q * 3 + 1 + 1 + 1 + 1 = (q * 3 + 1) + 1 + 1 + 1 by omega, show q * 3 + 1 + 1 + 1 + 2 = (q * 3 + 2) + 1 + 1 + 1 by omega]
    simp only [List.getElem?_cons_succ, List.drop_succ_cons]
    exact ⟨h1, h2, h3, h4⟩
theorem recCells_of : ∀ (rs : List Rec3) (j : Nat) (v : Value), (recCells rs)[j]? = some v → ∃ q r, rs[q]? = some r ∧ ((j = q * 3 ∧ v = .string r.nm) ∨ (j = q * 3 + 1 ∧ v = r.vv) ∨ (j = q * 3 + 2 ∧ v = .bool r.set))
  | [], j, v, h => by simp [recCells] at h
  | x :: rs, j, v, h => by
    have e : recCells (x :: rs) = .string x.nm :: x.vv :: .bool x.set :: recCells rs := rfl
    rw [e] at h
    match j, h with
    | 0, h => simp at h; exact ⟨0, x, rfl, .inl ⟨rfl, h.symm⟩⟩
    | 1, h => simp at h; exact ⟨0, x, rfl, .inr (.inl ⟨rfl, h.symm⟩)⟩
    | 2, h => simp at h; exact ⟨0, x, rfl, .inr (.inr ⟨rfl, h.symm⟩)⟩
    | j + 3, h =>
      simp only [List.getElem?_cons_succ] at h
      obtain ⟨q, r, h1, h2⟩ := recCells_of rs j v h
      refine ⟨q + 1, r, by simpa using h1, ?_⟩
      rcases h2 with ⟨e, f⟩ | ⟨e, f⟩ | ⟨e, f⟩
      · exact .inl ⟨by omega, f⟩
      · exact .inr (.inl ⟨by omega, f⟩)
      · exact .inr (.inr ⟨by omega, f⟩)

/-- a list of records, as it was taken in -/
def Recs (s : St) (a : Value) (rs : List Rec3) : Prop :=
  ((∃ x, a = .slice x 0 0) ∧ rs = [] ∨ ∃ b cap, a = .slice (some ⟨b, 0, none⟩) rs.length cap ∧ s.get b = some (.row (recCells rs) 0 true) ∧ b < s.next) ∧
  ∀ r ∈ rs, Cel s r.vv (r.vals.map Value.string) ∧ oneCell r.vv = true ∧ ow r.vv ≤ s.next

section
variable {H : Type} {enc : TypeId × Value → H} {P : Program} {B0 : Nat} {W0 : World} {μ : Nat → Spot} {s : St} {w : World}

theorem cells3 {a : Addr} {base : Nat} {cs : List Value} (h : w.cells? base a 3 = some cs) : ∃ x y z, cs = [x, y, z] ∧ w.cell? a = some x ∧ w.cell? (a.add 1) = some y ∧ w.cell? (a.add 2) = some z := by
  unfold World.cells? at h
  split at h
  · have h0 : a.add 0 = a := by unfold Addr.add; exact if_pos rfl
    have h1 : (List.range 3) = [0, 1, 2] := rfl
    rw [h1, List.mapM_cons, List.mapM_cons, List.mapM_cons] at h
    simp only [List.mapM_nil, h0, Option.bind_eq_bind, Option.bind_eq_some_iff, Option.pure_def, Option.some.injEq] at h
    obtain ⟨x, hx, xs, ⟨y, hy, ys, ⟨z, hz, zs, rfl, rfl⟩, rfl⟩, rfl⟩ := h
    exact ⟨x, y, z, rfl, hx, hy, hz⟩
  · cases h

/-- a slice whose elements take three cells each, as the reader sees it -/
theorem slice_in3 {t e : TypeId} {n base : Nat} {held : Bool} {x : Value} {y : DataW H × List MemPlace} (ht : P.underlying t = some (.slice e)) (hc : P.cellsOf e = 3) (hf : DataW.trod enc P w base (fun _ => true) held n t [x] = some y) :
    x = .slice none 0 0 ∨ (∃ a, x = .slice (some a) 0 0) ∨
    ∃ b off len cap m, x = .slice (some ⟨b, off, none⟩) len cap ∧ len ≤ cap ∧ cap ≤ maxLen ∧ b < w.heap.size ∧ ∀ j, j < len → ∃ v1 v2 v3 z, w.cell? ⟨b, off + j * 3, none⟩ = some v1 ∧ w.cell? ⟨b, off + j * 3 + 1, none⟩ = some v2 ∧ w.cell? ⟨b, off + j * 3 + 2, none⟩ = some v3 ∧ DataW.trod enc P w base (fun _ => true) held m e [v1, v2, v3] = some z := by
  rcases DataW.trod_slice ht hf with ⟨h0, _⟩ | ⟨a, len, cap, elems, rest, m, _, hcs, _, hba, hlc, hcm, hel, helm, hsp, _⟩
  · exact .inl (by simpa using h0)
  · obtain rfl : x = .slice (some a) len cap := by simpa using hcs
    by_cases hc0 : cap = 0
    · subst hc0
      obtain rfl : len = 0 := by omega
      exact .inr (.inl ⟨a, rfl⟩)
    have at0 : ∃ v, w.cell? a = some v := by
      have h0 : a.add (0 * P.cellsOf e) = a := by unfold Addr.add; simp
      by_cases hl : 0 < len
      · have := helm 0 hl
        rw [List.getElem?_eq_getElem (by omega), Option.bind_eq_some_iff, h0, hc] at this
        obtain ⟨cs, h1, _⟩ := this
        obtain ⟨v, _, _, _, hv, _⟩ := cells3 h1
        exact ⟨v, hv⟩
      · obtain ⟨hr, hj⟩ := hsp rfl
        have := hj 0 (by omega)
        rw [List.getElem?_eq_getElem (by omega), Option.bind_eq_some_iff] at this
        obtain ⟨cs, h1, _⟩ := this
        have hl0 : len = 0 := by omega
        subst hl0
        simp only [Nat.add_zero] at h1
        rw [h0, hc] at h1
        obtain ⟨v, _, _, _, hv, _⟩ := cells3 h1
        exact ⟨v, hv⟩
    obtain ⟨v0, hv0⟩ := at0
    obtain ⟨k1, k2⟩ := cell_lt hv0
    obtain ⟨b, off, sp⟩ := a
    simp only at k1 k2
    subst k2
    refine .inr (.inr ⟨b, off, len, cap, m, rfl, hlc, hcm, k1, fun j hj => ?_⟩)
    have := helm j hj
    rw [List.getElem?_eq_getElem (by omega), Option.bind_eq_some_iff, hc, add_eq] at this
    obtain ⟨cs, h1, h2⟩ := this
    obtain ⟨x, y, z, rfl, hx, hy, hz⟩ := cells3 h1
    rw [add_eq] at hy hz
    exact ⟨x, y, z, _, hx, hy, hz, h2⟩

theorem args_in (h : Rel B0 W0 μ s w) (hB : B0 = w.heap.size) (h0 : 0 < s.next) {t e es : TypeId} {fs : Array Field} {f0 f1 f2 : Field} {n base : Nat} {held : Bool} {x : Value} {y : DataW H × List MemPlace}
    (ht : P.underlying t = some (.slice e)) (he : P.underlying e = some (.struct fs)) (hce : P.cellsOf e = 3) (hf0 : fs[0]? = some f0) (hf1 : fs[1]? = some f1) (hf2 : fs[2]? = some f2)
    (ho0 : f0.offset = 0) (ho1 : f1.offset = 1) (ho2 : f2.offset = 2) (hc0 : P.cellsOf f0.type = 1) (hc1 : P.cellsOf f1.type = 1) (hc2 : P.cellsOf f2.type = 1)
    (hu0 : P.underlying f0.type = some .string) (hu1 : P.underlying f1.type = some (.slice es)) (hu2 : P.underlying f2.type = some .bool) (hes : P.underlying es = some .string) (hces : P.cellsOf es = 1)
    (hf : DataW.trod enc P w base (fun _ => true) held n t [x] = some y) :
    ∃ (μ' : Nat → Spot) (s' : St) (a : Value) (rs : List Rec3), Ext μ s μ' s' ∧ Rel B0 W0 μ' s' w ∧ VR μ' s'.next a x ∧ ow a ≤ s'.next ∧ Recs s' a rs := by
  rcases slice_in3 ht hce hf with rfl | ⟨a, rfl⟩ | ⟨b, off, len, cap, m, rfl, hlc, hcm, hb, hcell⟩
  · exact ⟨μ, s, .slice none 0 0, [], Ext.refl _ _, h, .nilSlice, Nat.zero_le _, .inl ⟨⟨_, rfl⟩, rfl⟩, fun r hr => by cases hr⟩
  · exact ⟨μ, s, .slice (some ⟨0, 0, some 0⟩) 0 0, [], Ext.refl _ _, h, .void a, h0, .inl ⟨⟨_, rfl⟩, rfl⟩, fun r hr => by cases hr⟩
  · have key : ∀ k, k ≤ len → ∃ (μ' : Nat → Spot) (s' : St) (rs : List Rec3), Ext μ s μ' s' ∧ Rel B0 W0 μ' s' w ∧ rs.length = k ∧ ∀ (j : Nat) r, rs[j]? = some r → (w.cell? ⟨b, off + j * 3, none⟩ = some (.string r.nm) ∧ (∃ v, w.cell? ⟨b, off + j * 3 + 1, none⟩ = some v ∧ VR μ' s'.next r.vv v) ∧ w.cell? ⟨b, off + j * 3 + 2, none⟩ = some (.bool r.set)) ∧ Cel s' r.vv (r.vals.map Value.string) ∧ oneCell r.vv = true ∧ ow r.vv ≤ s'.next := by
      intro k
      induction k with
      | zero => exact fun _ => ⟨μ, s, [], Ext.refl _ _, h, rfl, fun j a hj => by simp at hj⟩
      | succ k ih =>
        intro hk
        obtain ⟨μ1, s1, rs, x1, r1, hl, hall⟩ := ih (by omega)
        obtain ⟨v1, v2, v3, z, hv1, hv2, hv3, hz⟩ := hcell k (by omega)
        obtain ⟨xs, m', _, _, _, hxl, hxs⟩ := DataW.trod_struct he hz
        have hn : xs.length = 3 ∨ 3 ≤ xs.length := by
          right
          rw [hxl]
          exact (Array.getElem?_eq_some_iff.1 hf2).1
        have hx3 : 3 ≤ xs.length := by omega
        have q0 := hxs 0 f0 hf0
        have q1 := hxs 1 f1 hf1
        have q2 := hxs 2 f2 hf2
        rw [ho0, hc0, List.getElem?_eq_getElem (by omega)] at q0
        rw [ho1, hc1, List.getElem?_eq_getElem (by omega)] at q1
        rw [ho2, hc2, List.getElem?_eq_getElem (by omega)] at q2
        simp only [List.drop_zero, List.take_succ_cons, List.take_zero, List.drop_succ_cons] at q0 q1 q2
        obtain ⟨nm, e1, _, _⟩ := DataW.trod_string hu0 q0
        obtain ⟨st, e3, _⟩ := DataW.trod_bool hu2 q2
        simp only [List.cons.injEq, and_true] at e1 e3
        subst e1 e3
        obtain ⟨μ2, s2, a, qs, x2, r2, hva, hca, hoa⟩ := plain_in (β := ByteArray) Value.string (fun μ n q => .string q) r1 hB (Nat.lt_of_lt_of_le h0 x1.agree.1) hu1 (fun m v z hz => by
          obtain ⟨q, hq, _⟩ := DataW.trod_string hes hz
          exact ⟨q, by simpa using hq⟩) hces q1
        have hone : oneCell a = true := by
          rcases hca with ⟨rfl, _⟩ | ⟨_, _, _, _, _, _, rfl, _⟩ | ⟨_, rfl, _⟩ <;> rfl
        refine ⟨μ2, s2, rs ++ [⟨nm, a, qs, st⟩], x1.trans x2, r2, by simp [hl], fun j a' hj => ?_⟩
        rcases Nat.lt_or_ge j rs.length with hlt | hge
        · rw [List.getElem?_append_left hlt] at hj
          obtain ⟨⟨p1, ⟨v', p2, p3⟩, p4⟩, p5, p6, p7⟩ := hall j a' hj
          exact ⟨⟨p1, ⟨v', p2, p3.mono x2.agree⟩, p4⟩, p5.keep fun i hi => x2.keep i (by omega), p6, Nat.le_trans p7 x2.agree.1⟩
        · rw [List.getElem?_append_right hge] at hj
          obtain ⟨k1, k2⟩ := List.getElem?_eq_some_iff.1 hj
          simp at k1
          have : j = k := by omega
          subst this
          simp [hl] at k2
          subst k2
          exact ⟨⟨hv1, ⟨v2, hv2, hva⟩, hv3⟩, hca, hone, hoa⟩
    obtain ⟨μ1, s1, rs, x1, r1, hl, hall⟩ := key len (Nat.le_refl _)
    subst hl
    refine ⟨_, _, .slice (some ⟨s1.next, 0, none⟩) rs.length cap, rs, x1.trans (ext_addRo (recCells rs) ⟨b, off, off + (recCells rs).length, 0⟩), r1.addRo (recCells rs) b off hb (by omega) (fun j v hj => ?_), ?_, ?_, .inr ⟨s1.next, cap, rfl, get_new_same _ _, Nat.lt_succ_self _⟩, fun r hr => ?_⟩
    · obtain ⟨q, r, hq, hv⟩ := recCells_of rs j v hj
      obtain ⟨⟨p1, ⟨v', p2, p3⟩, p4⟩, _⟩ := hall q r hq
      rcases hv with ⟨rfl, rfl⟩ | ⟨rfl, rfl⟩ | ⟨rfl, rfl⟩
      · exact ⟨_, p1, .string _⟩
      · exact ⟨_, p2, p3⟩
      · exact ⟨_, p4, .bool _⟩
    · have := VR.slice (μ := upd μ1 s1.next ⟨b, off, off + (recCells rs).length, 0⟩) (n := s1.next + 1) s1.next 0 off rs.length cap cap (by omega) hlc (Nat.le_refl _) (fun _ => rfl) (fun _ => by simp [upd_same]) (by simp [upd_same]) (fun hh => by simp [upd_same] at hh)
      simpa [upd_same] using this
    · show s1.next + 1 ≤ s1.next + 1; exact Nat.le_refl _
    · obtain ⟨j, hj⟩ := List.getElem?_of_mem hr
      obtain ⟨_, p5, p6, p7⟩ := hall j r hj
      exact ⟨p5.keep fun i hi => get_new_ne _ _ _ (by omega), p6, Nat.le_succ_of_le p7⟩
end
end Go.Am
