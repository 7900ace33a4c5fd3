/-
  A list of items on the heap; the program's Template.
-/
import Derived.Test.YtdmemibnphcedaaGreatDoorRTplF
set_option linter.unusedSimpArgs false
set_option linter.unusedVariables false
set_option maxRecDepth 10000
set_option linter.unusedSectionVars false
namespace Go.Proofs.YtdmemibnphcedaaGreatDoor
open Go.Am

/-! ### lists of items, in plain words -/
theorem itemsA_append : ∀ (a b : List ByteArray), itemsA (a ++ b) = (itemsA a).bind fun x => (itemsA b).map (x ++ ·)
  | [], b => by
    simp only [List.nil_append, itemsA, Option.bind_some]
    cases itemsA b <;> simp
  | p :: a, b => by
    simp only [List.cons_append, itemsA]
    cases itemA p with
    | none => rfl
    | some x =>
      simp only [itemsA_append a b]
      cases itemsA a with
      | none => rfl
      | some l =>
        simp only [Option.bind_some, Option.map_some, Option.map_map]
        cases itemsA b <;> simp
theorem itemsA_length : ∀ {ps : List ByteArray} {l : List IM}, itemsA ps = some l → l.length = ps.length
  | [], l, h => by simp [itemsA] at h; subst h; rfl
  | p :: ps, l, h => by
    simp only [itemsA] at h
    cases hp : itemA p with
    | none => rw [hp] at h; cases h
    | some x =>
      rw [hp] at h
      simp only [Option.map_eq_some_iff] at h
      obtain ⟨m, h1, rfl⟩ := h
      simp [itemsA_length h1]
theorem items_at {ps : List ByteArray} {j : Nat} {done l : List IM} (hj : j < ps.length) (hd : itemsA (ps.take j) = some done) (hl : itemsA ps = some l) : ∃ x r, itemA ps[j] = some x ∧ l = done ++ x :: r ∧ r.length = ps.length - j - 1 := by
  have e : ps = ps.take j ++ ps[j] :: ps.drop (j + 1) := by rw [← List.drop_eq_getElem_cons hj, List.take_append_drop]
  rw [e, itemsA_append, hd] at hl
  simp only [Option.bind_some, Option.map_eq_some_iff, itemsA] at hl
  obtain ⟨m, h1, rfl⟩ := hl
  cases hp : itemA ps[j] with
  | none => rw [hp] at h1; cases h1
  | some x =>
    rw [hp] at h1
    simp only [Option.map_eq_some_iff] at h1
    obtain ⟨r, h2, rfl⟩ := h1
    refine ⟨x, r, rfl, rfl, ?_⟩
    rw [itemsA_length h2, List.length_drop]
    omega
theorem items_snoc {ps : List ByteArray} {j : Nat} {done : List IM} {x : IM} (hj : j < ps.length) (hd : itemsA (ps.take j) = some done) (hx : itemA ps[j] = some x) : itemsA (ps.take (j + 1)) = some (done ++ [x]) := by
  rw [List.take_add_one, List.getElem?_eq_getElem hj, itemsA_append, hd]
  simp [itemsA, hx]
theorem restOk_iff : ∀ (l : List IM), restOk l = true ↔ ∀ i y, l[i]? = some y → i + 1 < l.length → y.mks.f = false
  | [] => by simp [restOk]
  | [x] => by
    simp only [restOk, true_iff]
    intro i y hi hl
    simp at hl
  | x :: y :: l => by
    simp only [restOk, Bool.and_eq_true, Bool.not_eq_true', restOk_iff (y :: l)]
    constructor
    · rintro ⟨h1, h2⟩ i z hi hl
      cases i with
      | zero => simp at hi; subst hi; exact h1
      | succ i => exact h2 i z (by simpa using hi) (by simpa using hl)
    · intro h
      exact ⟨h 0 x rfl (by simp), fun i z hi hl => h (i + 1) z (by simpa using hi) (by simpa using hl)⟩
theorem namesOf_append (a b : List IM) : namesOf (a ++ b) = namesOf a ++ namesOf b := by simp [namesOf]
theorem namesOf_cons (x : IM) (b : List IM) : namesOf (x :: b) = x.names ++ namesOf b := rfl
theorem manyOf_append (a b : List IM) : manyOf (a ++ b) = manyOf a + manyOf b := by simp [manyOf]
theorem manyOf_one (x : IM) : manyOf [x] = if x.mks.m = true then 1 else 0 := by
  unfold manyOf
  by_cases h : x.mks.m = true
  · simp [h]
  · simp [h]

/-! ### on the heap -/
def itRow : List Value → List IM → List Value
  | nv :: nvs, x :: l => itCells nv x.mks ++ itRow nvs l
  | _, _ => []
theorem itRow_snoc : ∀ (nvs : List Value) (l : List IM) (nv : Value) (x : IM), nvs.length = l.length → itRow (nvs ++ [nv]) (l ++ [x]) = itRow nvs l ++ itCells nv x.mks
  | [], [], nv, x, _ => by simp [itRow]
  | a :: nvs, y :: l, nv, x, h => by
    simp only [List.cons_append, itRow, List.append_assoc]
    rw [itRow_snoc nvs l nv x (by simpa using h)]
theorem itRow_length : ∀ (nvs : List Value) (l : List IM), nvs.length = l.length → (itRow nvs l).length = l.length * 7
  | [], [], _ => rfl
  | a :: nvs, y :: l, h => by
    simp only [itRow, List.length_append, List.length_cons]
    rw [itRow_length nvs l (by simpa using h)]
    show 7 + _ = _
    omega
theorem itRow_at : ∀ (nvs : List Value) (l : List IM) (j : Nat) (nv : Value) (x : IM), nvs[j]? = some nv → l[j]? = some x → ((itRow nvs l).drop (j * 7)).take 7 = itCells nv x.mks
  | a :: nvs, y :: l, 0, nv, x, h1, h2 => by
    simp at h1 h2
    subst h1 h2
    rfl
  | a :: nvs, y :: l, j + 1, nv, x, h1, h2 => by
    simp only [itRow]
    rw [show (j + 1) * 7 = 7 + j * 7 by omega, ← List.drop_drop]
    have : List.drop 7 (itCells a y.mks ++ itRow nvs l) = itRow nvs l := rfl
    rw [this]
    exact itRow_at nvs l j nv x (by simpa using h1) (by simpa using h2)
  | [], _, j, nv, x, h1, _ => by simp at h1
  | _ :: _, [], j, nv, x, _, h2 => by simp at h2

/-- a heap holds a list of items; all of it lies from the block lo - 1 on -/
def ItR (lo : Nat) (st : St) (v : Value) (l : List IM) : Prop :=
  ∃ nvs : List Value, nvs.length = l.length ∧ GroK 7 st v (itRow nvs l) l.length ∧ (ow v = 0 ∨ lo ≤ ow v) ∧ ow v ≤ st.next ∧
    ∀ (j : Nat) (nv : Value) (x : IM), nvs[j]? = some nv → l[j]? = some x → Cel st nv (x.names.map Value.string) ∧ oneCell nv = true ∧ (ow nv = 0 ∨ (lo ≤ ow nv ∧ ow nv ≠ ow v)) ∧ ow nv ≤ st.next

theorem ItR.nil (lo : Nat) (st : St) : ItR lo st (.slice none 0 0) [] := ⟨[], rfl, GroK.nil _ _, .inl rfl, Nat.zero_le _, fun j nv x h => by simp at h⟩
theorem ItR.keep {lo : Nat} {st st' : St} {v : Value} {l : List IM} (h : ItR lo st v l) (hn : st.next ≤ st'.next) (hf : ∀ i, lo ≤ i + 1 → i < st.next → st'.get i = st.get i) : ItR lo st' v l := by
  obtain ⟨nvs, h1, h2, h3, h4, h5⟩ := h
  refine ⟨nvs, h1, h2.keep fun i hi => hf i (by omega) (by omega), h3, by omega, fun j nv x hj hx => ?_⟩
  obtain ⟨k1, k2, k3, k4⟩ := h5 j nv x hj hx
  exact ⟨k1.keep fun i hi => hf i (by omega) (by omega), k2, k3, by omega⟩
theorem ItR.weak {lo lo' : Nat} {st : St} {v : Value} {l : List IM} (h : ItR lo st v l) (hl : lo' ≤ lo) : ItR lo' st v l := by
  obtain ⟨nvs, h1, h2, h3, h4, h5⟩ := h
  refine ⟨nvs, h1, h2, by omega, h4, fun j nv x hj hx => ?_⟩
  obtain ⟨k1, k2, k3, k4⟩ := h5 j nv x hj hx
  exact ⟨k1, k2, by omega, k4⟩
theorem ItR.len {lo : Nat} {st : St} {v : Value} {l : List IM} (h : ItR lo st v l) (K : Value → Prop) : popK .lenSl [v] K = K (.int .i64 (l.length : Nat)) := by
  obtain ⟨nvs, h1, h2, _⟩ := h
  rcases h2 with ⟨q1, q2, q3⟩ | ⟨b, cap, q1, _⟩
  · rw [q1, q3]; rfl
  · rw [q1, pk_lenSl]
theorem ItR.at {lo : Nat} {st : St} {v : Value} {l : List IM} (h : ItR lo st v l) {j : Nat} (hj : j < l.length) : ∃ (b : Nat) (nv : Value), (∀ K : Value → Prop, popK (.indexAddr 7) [v, .int .i64 (j : Int)] K = K (.pointer (some ⟨b, j * 7, none⟩))) ∧ (∀ K : Value → Prop, ropK (.loadN 7) [.pointer (some ⟨b, j * 7, none⟩)] st K = K (.agg (itCells nv l[j].mks).toArray)) ∧
    (∀ (k : Nat) (c : Value), (itCells nv l[j].mks)[k]? = some c → ∀ K : Value → Prop, ropK .load1 [.pointer (some ⟨b, j * 7 + k, none⟩)] st K = K c) ∧ Cel st nv (l[j].names.map Value.string) ∧ oneCell nv = true ∧ (ow nv = 0 ∨ lo ≤ ow nv) ∧ ow nv ≤ st.next := by
  obtain ⟨nvs, h1, h2, h3, h4, h5⟩ := h
  rcases h2 with ⟨q1, q2, q3⟩ | ⟨b, cap, q1, q2, q3, q4⟩
  · omega
  have hnv : nvs[j]? = some (nvs[j]'(by omega)) := List.getElem?_eq_getElem _
  have hx : l[j]? = some l[j] := List.getElem?_eq_getElem _
  obtain ⟨k1, k2, k3, k4⟩ := h5 j _ _ hnv hx
  have hat := itRow_at nvs l j _ _ hnv hx
  refine ⟨b, nvs[j]'(by omega), fun K => ?_, fun K => rk_loadK q3 hat rfl (by decide) K, fun k c hc K => ?_, k1, k2, by omega, k4⟩
  · rw [q1, pk_indexAddr]
    have e : (0 : Nat) + (j : Int).toNat * 7 = j * 7 := by omega
    rw [e]
    exact propext ⟨fun h => h.2, fun h => ⟨⟨by omega, by omega⟩, h⟩⟩
  · rw [rk_load1, q3]
    simp only [getK, rowK]
    refine nthK_at ?_ K
    rw [← hat] at hc
    have hk : k < 7 := by
      have := (List.getElem?_eq_some_iff.1 hc).1
      rw [List.length_take] at this
      omega
    rw [List.getElem?_take_of_lt hk, List.getElem?_drop] at hc
    exact hc
theorem ItR.snoc {lo : Nat} {st st' : St} {v v' nv : Value} {l : List IM} {x : IM} {nvs : List Value} (h1 : nvs.length = l.length) (h5 : ∀ (j : Nat) (nv : Value) (x : IM), nvs[j]? = some nv → l[j]? = some x → Cel st nv (x.names.map Value.string) ∧ oneCell nv = true ∧ (ow nv = 0 ∨ (lo ≤ ow nv ∧ ow nv ≠ ow v)) ∧ ow nv ≤ st.next)
    (hg : GroK 7 st' v' (itRow nvs l ++ itCells nv x.mks) (l.length + 1)) (hn : st.next ≤ st'.next) (hf : ∀ i, i + 1 ≠ ow v → i < st.next → st'.get i = st.get i) (hv' : lo ≤ ow v' ∧ st.next < ow v' ∧ ow v' ≤ st'.next)
    (hc : Cel st nv (x.names.map Value.string)) (ho : oneCell nv = true) (hw : ow nv = 0 ∨ (lo ≤ ow nv ∧ ow nv ≠ ow v)) (hwn : ow nv ≤ st.next) : ItR lo st' v' (l ++ [x]) := by
  refine ⟨nvs ++ [nv], by simp [h1], by rw [itRow_snoc _ _ _ _ h1, List.length_append]; exact hg, .inr hv'.1, hv'.2.2, fun j nv' x' hj hx => ?_⟩
  by_cases hjl : j < l.length
  · rw [List.getElem?_append_left (by omega)] at hj hx
    obtain ⟨k1, k2, k3, k4⟩ := h5 j nv' x' hj hx
    refine ⟨k1.keep fun i hi => hf i (by omega) (by omega), k2, by omega, by omega⟩
  · rw [List.getElem?_append_right (by omega)] at hj hx
    have e1 : j - nvs.length = 0 := by
      have := (List.getElem?_eq_some_iff.1 hj).1
      simp at this
      omega
    rw [e1] at hj
    rw [show j - l.length = 0 by omega] at hx
    simp at hj hx
    subst hj hx
    exact ⟨hc.keep fun i hi => hf i (by omega) (by omega), ho, by omega, by omega⟩

/-- the names that were seen -/
def Seen (es : List (Value × Value × Nat)) (ns : List ByteArray) : Prop := es.map (fun e => (e.1, e.2.1)) = ns.map fun n => (Value.string n, Value.bool true)

theorem Seen.find : ∀ {es : List (Value × Value × Nat)} {ns : List ByteArray}, Seen es ns → ∀ (q : ByteArray) (i : Nat), (q ∈ ns → ∃ k, findV .str (.string q) es i = some (some (k, .bool true))) ∧ (q ∉ ns → findV .str (.string q) es i = some none)
  | [], [], _, q, i => ⟨fun h => (by cases h), fun _ => rfl⟩
  | e :: es, n :: ns, h, q, i => by
    simp only [Seen, List.map_cons, List.cons.injEq, Prod.mk.injEq] at h
    obtain ⟨⟨h1, h2⟩, h3⟩ := h
    obtain ⟨k1, k2⟩ := Seen.find (es := es) (ns := ns) h3 q (i + 1)
    simp only [findV, h1, h2, sameV, bytes_beq]
    by_cases hq : q = n
    · subst hq
      simp
    · simp only [hq, decide_false, List.mem_cons, false_or]
      exact ⟨k1, k2⟩
  | [], n :: ns, h, _, _ => by simp [Seen] at h
  | e :: es, [], h, _, _ => by simp [Seen] at h
theorem Seen.snoc {es : List (Value × Value × Nat)} {ns : List ByteArray} (h : Seen es ns) (q : ByteArray) (c : Nat) : Seen (es ++ [(.string q, .bool true, c)]) (ns ++ [q]) := by
  unfold Seen at *
  rw [List.map_append, h, List.map_append]
  rfl
end Go.Proofs.YtdmemibnphcedaaGreatDoor
