/-
  Arguments taken in: what a reader reads, as rows of the second machine.
-/
import Derived.Test.YtjomiadmminhfaaGreatDoorSFilClaimPart39
import Derived.Test.YtjomiadmminhfaaGreatDoorSFilClaimPart9
set_option linter.unusedSimpArgs false
set_option linter.unusedVariables false
set_option maxRecDepth 10000
namespace Go.Am
open Go.RowKit (Below)
open Go.RowKit Go.ChangeShapes Go.WideShapes

section
variable {H : Type} {enc : TypeId × Value → H} {P : Program} {B0 : Nat} {W0 : World} {μ : Nat → Spot} {s : St} {w : World}

/-- more rows, and of what there was nothing has turned -/
structure Ext (μ : Nat → Spot) (s : St) (μ' : Nat → Spot) (s' : St) : Prop where
  agree : Agree μ s.next μ' s'.next
  keep : ∀ i, i < s.next → s'.get i = s.get i

theorem Ext.refl (μ : Nat → Spot) (s : St) : Ext μ s μ s := ⟨Agree.refl _ _, fun _ _ => rfl⟩
theorem Ext.trans {μ' μ'' : Nat → Spot} {s' s'' : St} (h : Ext μ s μ' s') (k : Ext μ' s' μ'' s'') : Ext μ s μ'' s'' :=
  ⟨h.agree.trans k.agree, fun i hi => (k.keep i (Nat.lt_of_lt_of_le hi h.agree.1)).trans (h.keep i hi)⟩

theorem Ext.glob {μ' : Nat → Spot} {s' : St} (h : Ext μ s μ' s') (hg : Glob P μ s.next) : Glob P μ' s'.next := fun g hl => by
  obtain ⟨h1, h2, h3⟩ := hg g hl
  have := h.agree.2 g h1
  exact ⟨Nat.lt_of_lt_of_le h1 h.agree.1, by rw [this]; exact h2, by rw [this]; exact h3⟩

/-- a row that is read alone -/
theorem Rel.addRo (h : Rel B0 W0 μ s w) (cs : List Value) (b off : Nat) (hb : b < w.heap.size) (hB : b < B0) (hc : ∀ (j : Nat) v, cs[j]? = some v → ∃ v', w.cell? ⟨b, off + j, none⟩ = some v' ∧ VR μ s.next v v') :
    Rel B0 W0 (upd μ s.next ⟨b, off, off + cs.length, 0⟩) (s.new (.row cs 0 true)) w := by
  have ha := upd_agree (μ := μ) ⟨b, off, off + cs.length, 0⟩ s.next
  refine h.rename (.row cs 0 true) ⟨b, off, off + cs.length, 0⟩ hb ?_ (fun hh => by simp [AObj.owned] at hh)
  unfold IdOk
  rw [upd_same]
  refine ⟨rfl, Nat.le_refl _, fun j v hj => ?_, fun _ => .inl hB, fun hh => by cases hh⟩
  obtain ⟨v', h1, h2⟩ := hc j v hj
  exact ⟨v', h1, h2.mono ha⟩

theorem ext_addRo (cs : List Value) (sp : Spot) : Ext μ s (upd μ s.next sp) (s.new (.row cs 0 true)) :=
  ⟨upd_agree sp s.next, fun i hi => get_new_ne _ _ _ (by omega)⟩

theorem cell_lt {a : Addr} {v : Value} (h : w.cell? a = some v) : a.block < w.heap.size ∧ a.spot = none := by
  unfold World.cell? at h
  split at h
  · rename_i c x y hh
    refine ⟨?_, ?_⟩
    · by_cases hb : a.block < w.heap.size
      · exact hb
      · rw [Array.getElem?_eq_none (by omega)] at hh; cases hh
    · split at h
      · cases h
      · rename_i hs; simpa using hs
  · cases h

/-- one cell of a slice's elements -/
theorem cells1 {a : Addr} {base : Nat} {cs : List Value} (h : w.cells? base a 1 = some cs) : ∃ v, cs = [v] ∧ w.cell? a = some v := by
  unfold World.cells? at h
  split at h
  · have h0 : a.add 0 = a := by unfold Addr.add; exact if_pos rfl
    have h1 : (List.range 1) = [0] := rfl
    rw [h1, List.mapM_cons] at h
    simp only [List.mapM_nil, h0, Option.bind_eq_bind, Option.bind_eq_some_iff, Option.pure_def, Option.some.injEq] at h
    obtain ⟨v, hv, xs, rfl, rfl⟩ := h
    exact ⟨v, rfl, hv⟩
  · cases h

/-- a slice whose elements take a cell each, as the reader sees it: nil; empty with no room (it may lie anywhere); or cells that are there -/
theorem slice_in {t e : TypeId} {n base : Nat} {held : Bool} {x : Value} {y : DataW H × List MemPlace} (ht : P.underlying t = some (.slice e)) (hc : P.cellsOf e = 1) (hf : DataW.trod enc P w base (fun _ => true) held n t [x] = some y) :
    x = .slice none 0 0 ∨ (∃ a, x = .slice (some a) 0 0) ∨
    ∃ b off len cap m, x = .slice (some ⟨b, off, none⟩) len cap ∧ len ≤ cap ∧ cap ≤ maxLen ∧ b < w.heap.size ∧ ∀ j, j < len → ∃ v z, w.cell? ⟨b, off + j, none⟩ = some v ∧ DataW.trod enc P w base (fun _ => true) held m e [v] = some z := by
  rcases DataW.trod_slice ht hf with ⟨h0, _⟩ | ⟨a, len, cap, elems, rest, m, _, hcs, _, hba, hlc, hcm, hel, helm, hsp, _⟩
  · exact .inl (by simpa using h0)
  · obtain rfl : x = .slice (some a) len cap := by simpa using hcs
    by_cases hc0 : cap = 0
    · subst hc0
      obtain rfl : len = 0 := by omega
      exact .inr (.inl ⟨a, rfl⟩)
    have at0 : ∃ v, w.cell? a = some v := by
      have h0 : a.add (0 * P.cellsOf e) = a := by unfold Addr.add; simp
      by_cases hl : 0 < len
      · have := helm 0 hl
        rw [List.getElem?_eq_getElem (by omega), Option.bind_eq_some_iff, hc] at this
        obtain ⟨cs, h1, _⟩ := this
        rw [hc] at h0
        rw [h0] at h1
        obtain ⟨v, _, hv⟩ := cells1 h1
        exact ⟨v, hv⟩
      · obtain ⟨hr, hj⟩ := hsp rfl
        have := hj 0 (by omega)
        rw [List.getElem?_eq_getElem (by omega), Option.bind_eq_some_iff, hc] at this
        obtain ⟨cs, h1, _⟩ := this
        have hl0 : len = 0 := by omega
        subst hl0
        rw [hc] at h0
        simp only [Nat.add_zero] at h1
        rw [h0] at h1
        obtain ⟨v, _, hv⟩ := cells1 h1
        exact ⟨v, hv⟩
    obtain ⟨v0, hv0⟩ := at0
    obtain ⟨k1, k2⟩ := cell_lt hv0
    obtain ⟨b, off, sp⟩ := a
    simp only at k1 k2
    subst k2
    refine .inr (.inr ⟨b, off, len, cap, m, rfl, hlc, hcm, k1, fun j hj => ?_⟩)
    have := helm j hj
    rw [List.getElem?_eq_getElem (by omega), Option.bind_eq_some_iff, hc, Nat.mul_one, add_eq] at this
    obtain ⟨cs, h1, h2⟩ := this
    obtain ⟨v, rfl, hv⟩ := cells1 h1
    exact ⟨v, _, hv, h2⟩

theorem bytes_in (h : Rel B0 W0 μ s w) (hB : B0 = w.heap.size) (h0 : 0 < s.next) {t e : TypeId} {n base : Nat} {held : Bool} {x : Value} {y : DataW H × List MemPlace} (ht : P.underlying t = some (.slice e)) (he : P.underlying e = some (.int .u8)) (hc : P.cellsOf e = 1)
    (hf : DataW.trod enc P w base (fun _ => true) held n t [x] = some y) :
    ∃ μ' s' a l, Ext μ s μ' s' ∧ Rel B0 W0 μ' s' w ∧ VR μ' s'.next a x ∧ Bys s' a l ∧ ow a ≤ s'.next := by
  rcases slice_in ht hc hf with rfl | ⟨a, rfl⟩ | ⟨b, off, len, cap, m, rfl, hlc, hcm, hb, hcell⟩
  · exact ⟨μ, s, .slice none 0 0, [], Ext.refl _ _, h, .nilSlice, Bys.nil _, Nat.zero_le _⟩
  · exact ⟨μ, s, .slice (some ⟨0, 0, some 0⟩) 0 0, [], Ext.refl _ _, h, .void a, .inr (.inr ⟨_, rfl, rfl⟩), h0⟩
  · have hbyte : ∀ j, j < len → ∃ c : UInt8, w.cell? ⟨b, off + j, none⟩ = some (u8v c) := fun j hj => by
      obtain ⟨v, z, hv, hz⟩ := hcell j hj
      obtain ⟨k, hk, _, hw⟩ := DataW.trod_int he hz
      have hvk : v = .int .u8 k := by simpa using hk
      have hk2 : 0 ≤ k ∧ k ≤ 255 := by
        simp only [Lit.wf, IntKind.min, IntKind.max] at hw
        simpa [IntKind.signed, IntKind.bits] using hw
      refine ⟨UInt8.ofNat k.toNat, ?_⟩
      rw [hv, hvk]
      have : ((UInt8.ofNat k.toNat).toNat : Int) = k := by
        rw [UInt8.toNat_ofNat']
        omega
      simp only [u8v, this]
    obtain ⟨l, hl, hcl⟩ : ∃ l : List UInt8, l.length = len ∧ ∀ (j : Nat) c, l[j]? = some c → w.cell? ⟨b, off + j, none⟩ = some (u8v c) := by
      refine ⟨(List.range len).map fun j => if hj : j < len then (hbyte j hj).choose else 0, by simp, fun j c hj => ?_⟩
      simp only [List.getElem?_map, Option.map_eq_some_iff] at hj
      obtain ⟨j', hj1, rfl⟩ := hj
      obtain ⟨q1, q2⟩ := List.getElem?_eq_some_iff.1 hj1
      simp at q1 q2
      subst q2
      rw [dif_pos q1]
      exact (hbyte _ q1).choose_spec
    subst hl
    refine ⟨_, _, .slice (some ⟨s.next, 0, none⟩) l.length cap, l, ext_addRo (l.map u8v) ⟨b, off, off + (l.map u8v).length, 0⟩, h.addRo (l.map u8v) b off hb (by omega) (fun j v hj => ?_), ?_, .inr (.inl ⟨s.next, 0, cap, l.map u8v, 0, true, rfl, hlc, get_new_same _ _, .inl rfl, by simp, by rw [List.drop_zero, List.take_of_length_le (by simp)]⟩), ?_⟩
    · simp only [List.getElem?_map, Option.map_eq_some_iff] at hj
      obtain ⟨c, hj, rfl⟩ := hj
      exact ⟨_, hcl j c hj, .int _ _⟩
    · have := VR.slice (μ := upd μ s.next ⟨b, off, off + (l.map u8v).length, 0⟩) (n := s.next + 1) s.next 0 off l.length cap cap (by omega) hlc (Nat.le_refl _) (fun _ => rfl) (fun _ => by simp [upd_same]) (by simp [upd_same]) (fun hh => by simp [upd_same] at hh)
      simpa [upd_same] using this
    · show s.next + 1 ≤ s.next + 1; exact Nat.le_refl _

/-- a list of what is there at each place -/
theorem choose_list {β : Type} {R : Nat → β → Prop} (len : Nat) (h : ∀ j, j < len → ∃ q, R j q) : ∃ qs : List β, qs.length = len ∧ ∀ (j : Nat) q, qs[j]? = some q → R j q := by
  induction len with
  | zero => exact ⟨[], rfl, fun j q hj => by simp at hj⟩
  | succ len ih =>
    obtain ⟨qs, h1, h2⟩ := ih fun j hj => h j (by omega)
    obtain ⟨q, hq⟩ := h len (by omega)
    refine ⟨qs ++ [q], by simp [h1], fun j q' hj => ?_⟩
    rcases Nat.lt_or_ge j qs.length with hlt | hge
    · rw [List.getElem?_append_left hlt] at hj; exact h2 j q' hj
    · rw [List.getElem?_append_right hge] at hj
      obtain ⟨k1, k2⟩ := List.getElem?_eq_some_iff.1 hj
      simp at k1
      have : j = len := by omega
      subst this
      simp at k2
      subst k2
      exact hq

/-- a slice of plain values (ints, texts) -/
theorem plain_in {β : Type} (f : β → Value) (hVR : ∀ (μ : Nat → Spot) (n : Nat) q, VR μ n (f q) (f q)) (h : Rel B0 W0 μ s w) (hB : B0 = w.heap.size) (h0 : 0 < s.next) {t e : TypeId} {n base : Nat} {held : Bool} {x : Value} {y : DataW H × List MemPlace} (ht : P.underlying t = some (.slice e))
    (he : ∀ (m : Nat) (v : Value) z, DataW.trod enc P w base (fun _ => true) held m e [v] = some z → ∃ q, v = f q) (hc : P.cellsOf e = 1) (hf : DataW.trod enc P w base (fun _ => true) held n t [x] = some y) :
    ∃ (μ' : Nat → Spot) (s' : St) (a : Value) (qs : List β), Ext μ s μ' s' ∧ Rel B0 W0 μ' s' w ∧ VR μ' s'.next a x ∧ Cel s' a (qs.map f) ∧ ow a ≤ s'.next := by
  rcases slice_in ht hc hf with rfl | ⟨a, rfl⟩ | ⟨b, off, len, cap, m, rfl, hlc, hcm, hb, hcell⟩
  · exact ⟨μ, s, .slice none 0 0, [], Ext.refl _ _, h, .nilSlice, .inl ⟨rfl, rfl⟩, Nat.zero_le _⟩
  · exact ⟨μ, s, .slice (some ⟨0, 0, some 0⟩) 0 0, [], Ext.refl _ _, h, .void a, .inr (.inr ⟨_, rfl, rfl⟩), h0⟩
  · obtain ⟨qs, hl, hq⟩ := choose_list (R := fun j q => w.cell? ⟨b, off + j, none⟩ = some (f q)) len fun j hj => by
      obtain ⟨v, z, hv, hz⟩ := hcell j hj
      obtain ⟨q, rfl⟩ := he m v z hz
      exact ⟨q, hv⟩
    subst hl
    have hml : (qs.map f).length = qs.length := List.length_map _
    refine ⟨_, _, .slice (some ⟨s.next, 0, none⟩) qs.length cap, qs, ext_addRo (qs.map f) ⟨b, off, off + (qs.map f).length, 0⟩, h.addRo (qs.map f) b off hb (by omega) (fun j v hj => ?_), ?_, .inr (.inl ⟨s.next, 0, cap, qs.map f, 0, true, by rw [hml], get_new_same _ _, by simp, by rw [List.drop_zero, List.take_of_length_le (Nat.le_refl _)]⟩), ?_⟩
    · simp only [List.getElem?_map, Option.map_eq_some_iff] at hj
      obtain ⟨c, hj, rfl⟩ := hj
      exact ⟨_, hq j c hj, hVR _ _ _⟩
    · have := VR.slice (μ := upd μ s.next ⟨b, off, off + (qs.map f).length, 0⟩) (n := s.next + 1) s.next 0 off qs.length cap cap (by omega) hlc (Nat.le_refl _) (fun _ => rfl) (fun _ => by simp [upd_same]) (by simp [upd_same]) (fun hh => by simp [upd_same] at hh)
      simpa [upd_same] using this
    · show s.next + 1 ≤ s.next + 1; exact Nat.le_refl _

/-- a slice of slices of bytes -/
theorem bytess_in (h : Rel B0 W0 μ s w) (hB : B0 = w.heap.size) (h0 : 0 < s.next) {t e u : TypeId} {n base : Nat} {held : Bool} {x : Value} {y : DataW H × List MemPlace} (ht : P.underlying t = some (.slice e)) (he : P.underlying e = some (.slice u)) (hu : P.underlying u = some (.int .u8)) (hc : P.cellsOf e = 1) (hcu : P.cellsOf u = 1)
    (hf : DataW.trod enc P w base (fun _ => true) held n t [x] = some y) :
    ∃ (μ' : Nat → Spot) (s' : St) (a : Value) (as : List Value), Ext μ s μ' s' ∧ Rel B0 W0 μ' s' w ∧ VR μ' s'.next a x ∧ Cel s' a as ∧ ow a ≤ s'.next ∧ ∀ x ∈ as, ∃ l, Bys s' x l ∧ ow x ≤ s'.next := by
  rcases slice_in ht hc hf with rfl | ⟨a, rfl⟩ | ⟨b, off, len, cap, m, rfl, hlc, hcm, hb, hcell⟩
  · exact ⟨μ, s, .slice none 0 0, [], Ext.refl _ _, h, .nilSlice, .inl ⟨rfl, rfl⟩, Nat.zero_le _, fun x hx => by cases hx⟩
  · exact ⟨μ, s, .slice (some ⟨0, 0, some 0⟩) 0 0, [], Ext.refl _ _, h, .void a, .inr (.inr ⟨_, rfl, rfl⟩), h0, fun x hx => by cases hx⟩
  · have key : ∀ k, k ≤ len → ∃ (μ' : Nat → Spot) (s' : St) (as : List Value), Ext μ s μ' s' ∧ Rel B0 W0 μ' s' w ∧ as.length = k ∧ ∀ (j : Nat) a, as[j]? = some a → (∃ v, w.cell? ⟨b, off + j, none⟩ = some v ∧ VR μ' s'.next a v) ∧ ∃ l, Bys s' a l ∧ ow a ≤ s'.next := by
      intro k
      induction k with
      | zero => exact fun _ => ⟨μ, s, [], Ext.refl _ _, h, rfl, fun j a hj => by simp at hj⟩
      | succ k ih =>
        intro hk
        obtain ⟨μ1, s1, as, x1, r1, hl, hall⟩ := ih (by omega)
        obtain ⟨v, z, hv, hz⟩ := hcell k (by omega)
        obtain ⟨μ2, s2, a, l, x2, r2, hva, hba, hoa⟩ := bytes_in r1 hB (Nat.lt_of_lt_of_le h0 x1.agree.1) he hu hcu hz
        refine ⟨μ2, s2, as ++ [a], x1.trans x2, r2, by simp [hl], fun j a' hj => ?_⟩
        rcases Nat.lt_or_ge j as.length with hlt | hge
        · rw [List.getElem?_append_left hlt] at hj
          obtain ⟨⟨v', q1, q2⟩, l', q3, q4⟩ := hall j a' hj
          exact ⟨⟨v', q1, q2.mono x2.agree⟩, l', q3.keep fun i hi => x2.keep i (by omega), Nat.le_trans q4 x2.agree.1⟩
        · rw [List.getElem?_append_right hge] at hj
          obtain ⟨k1, k2⟩ := List.getElem?_eq_some_iff.1 hj
          simp at k1
          have : j = k := by omega
          subst this
          simp [hl] at k2
          subst k2
          exact ⟨⟨v, hv, hva⟩, l, hba, hoa⟩
    obtain ⟨μ1, s1, as, x1, r1, hl, hall⟩ := key len (Nat.le_refl _)
    subst hl
    refine ⟨_, _, .slice (some ⟨s1.next, 0, none⟩) as.length cap, as, x1.trans (ext_addRo as ⟨b, off, off + as.length, 0⟩), r1.addRo as b off hb (by omega) (fun j v hj => ?_), ?_, .inr (.inl ⟨s1.next, 0, cap, as, 0, true, rfl, get_new_same _ _, by simp, by rw [List.drop_zero, List.take_of_length_le (Nat.le_refl _)]⟩), ?_, fun a ha => ?_⟩
    · exact (hall j v hj).1
    · have := VR.slice (μ := upd μ1 s1.next ⟨b, off, off + as.length, 0⟩) (n := s1.next + 1) s1.next 0 off as.length cap cap (by omega) hlc (Nat.le_refl _) (fun _ => rfl) (fun _ => by simp [upd_same]) (by simp [upd_same]) (fun hh => by simp [upd_same] at hh)
      simpa [upd_same] using this
    · show s1.next + 1 ≤ s1.next + 1; exact Nat.le_refl _
    · obtain ⟨j, hj⟩ := List.getElem?_of_mem ha
      obtain ⟨_, l, q3, q4⟩ := hall j a hj
      exact ⟨l, q3.keep fun i hi => get_new_ne _ _ _ (by omega), Nat.le_succ_of_le q4⟩

/-- the begin: the variable 0 holds some int -/
theorem begin_rel {m : Int} (hG : 0 < P.globals.size) (hm : w.cell? ⟨0, 0, none⟩ = some (.int .i64 m)) (h0 : 0 < w.heap.size) : Rel w.heap.size w (fun i => ⟨i, 0, 1, 0⟩) (St.begin m P.globals.size) w := by
  refine Rel.start _ (fun i o hi => ?_) (fun i o hi => ?_)
  · rw [begin_get] at hi
    split at hi
    · rename_i h
      subst h
      cases hi
      refine ⟨hG, h0, rfl, by simp, fun j v hj => ?_, fun _ => .inl h0, fun h => by cases h⟩
      cases j with
      | zero => simp at hj; subst hj; exact ⟨_, hm, .int _ _⟩
      | succ j => simp at hj
    · cases hi
  · rw [begin_get] at hi
    split at hi
    · cases hi; rfl
    · cases hi
theorem begin_glob {m : Int} : Glob P (fun i => ⟨i, 0, 1, 0⟩) (St.begin m P.globals.size).next := fun g hg => ⟨hg, rfl, rfl⟩

/-- a law that is run over rows taken in: it returns true, and no block that was there has turned -/
theorem calls_law {F : CallF} (hF : FSound P F) {f : FuncId} {m : Int} {args vs : List Value} {μ : Nat → Spot} {s : St} (hx : Ext (fun i => ⟨i, 0, 1, 0⟩) (St.begin m P.globals.size) μ s) (hr : Rel w.heap.size w μ s w) (ha : VRs μ s.next vs args)
    (hrun : callK F f vs s fun v _ => v = .bool true) : Calls P f args.toArray w fun e w' => e = .returned (.bool true) ∧ Below w.heap.size w w' := by
  refine (calls_of_run hF hrun hr (hx.glob begin_glob) ha).mono fun e w' h => ?_
  obtain ⟨v, s', v', h1, h2, μ', _, h3, h4⟩ := h
  simp only at h1
  subst h1
  cases h4
  exact ⟨h2, h3.below⟩
end
end Go.Am
