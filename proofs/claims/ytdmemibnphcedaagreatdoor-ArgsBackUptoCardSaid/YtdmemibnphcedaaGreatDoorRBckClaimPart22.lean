/-
  An item as the chapter reads it.
  A list of items on the heap; the program's Template.
  The program's Template.
  The chapter's Template.
  Usage, by the program and by the chapter.
  Usage, by the program.
-/
import Derived.Test.YtdmemibnphcedaaGreatDoorRBckClaimPart21
section
set_option linter.unusedSimpArgs false
set_option linter.unusedVariables false
set_option maxRecDepth 10000
set_option linter.unusedSectionVars false
namespace Go.Proofs.YtdmemibnphcedaaGreatDoor
open Go.Am
attribute [local irreducible] callO wopK ropK popK opK grpsE listE sx Runs

theorem it7 {nv : Value} (h : oneCell nv = true) (x : Mk) : (itCells nv x).all oneCell = true := by
 show (oneCell nv && _) = true
 rw [h]
 rfl
section
variable {st : St} {K : Value → St → Prop}

end
end Go.Proofs.YtdmemibnphcedaaGreatDoor
end
section
set_option linter.unusedSimpArgs false
set_option linter.unusedVariables false
set_option maxRecDepth 10000
set_option linter.unusedSectionVars false
namespace Go.Proofs.YtdmemibnphcedaaGreatDoor
open Go.Am

/-! ### lists of items, in plain words -/
theorem itemsA_append : ∀ (a b : List ByteArray), itemsA (a ++ b) = (itemsA a).bind fun x => (itemsA b).map (x ++ ·)
 | [], b => by
  simp only [List.nil_append, itemsA, Option.bind_some]
  cases itemsA b <;> simp
 | p :: a, b => by
  simp only [List.cons_append, itemsA]
  cases itemA p with
  | none => rfl
  | some x =>
   simp only [itemsA_append a b]
   cases itemsA a with
   | none => rfl
   | some l =>
    simp only [Option.bind_some, Option.map_some, Option.map_map]
    cases itemsA b <;> simp
theorem itemsA_length : ∀ {ps : List ByteArray} {l : List IM}, itemsA ps = some l → l.length = ps.length
 | [], l, h => by simp [itemsA] at h; subst h; rfl
 | p :: ps, l, h => by
  simp only [itemsA] at h
  cases hp : itemA p with
  | none => rw [hp] at h; cases h
  | some x =>
   rw [hp] at h
   simp only [Option.map_eq_some_iff] at h
   obtain ⟨m, h1, rfl⟩ := h
   simp [itemsA_length h1]
theorem items_at {ps : List ByteArray} {j : Nat} {done l : List IM} (hj : j < ps.length) (hd : itemsA (ps.take j) = some done) (hl : itemsA ps = some l) : ∃ x r, itemA ps[j] = some x ∧ l = done ++ x :: r ∧ r.length = ps.length - j - 1 := by
 have e : ps = ps.take j ++ ps[j] :: ps.drop (j + 1) := by rw [← List.drop_eq_getElem_cons hj, List.take_append_drop]
 rw [e, itemsA_append, hd] at hl
 simp only [Option.bind_some, Option.map_eq_some_iff, itemsA] at hl
 obtain ⟨m, h1, rfl⟩ := hl
 cases hp : itemA ps[j] with
 | none => rw [hp] at h1; cases h1
 | some x =>
  rw [hp] at h1
  simp only [Option.map_eq_some_iff] at h1
  obtain ⟨r, h2, rfl⟩ := h1
  refine ⟨x, r, rfl, rfl, ?_⟩
  rw [itemsA_length h2, List.length_drop]
  omega
theorem items_snoc {ps : List ByteArray} {j : Nat} {done : List IM} {x : IM} (hj : j < ps.length) (hd : itemsA (ps.take j) = some done) (hx : itemA ps[j] = some x) : itemsA (ps.take (j + 1)) = some (done ++ [x]) := by
 rw [List.take_add_one, List.getElem?_eq_getElem hj, itemsA_append, hd]
 simp [itemsA, hx]
theorem restOk_iff : ∀ (l : List IM), restOk l = true ↔ ∀ i y, l[i]? = some y → i + 1 < l.length → y.mks.f = false
 | [] => by simp [restOk]
 | [x] => by
  simp only [restOk, true_iff]
  intro i y hi hl
  simp at hl
 | x :: y :: l => by
  simp only [restOk, Bool.and_eq_true, Bool.not_eq_true', restOk_iff (y :: l)]
  constructor
  ·rintro ⟨h1, h2⟩ i z hi hl
   cases i with
   | zero => simp at hi; subst hi; exact h1
   | succ i => exact h2 i z (by simpa using hi) (by simpa using hl)
  ·intro h
   exact ⟨h 0 x rfl (by simp), fun i z hi hl => h (i + 1) z (by simpa using hi) (by simpa using hl)⟩
theorem namesOf_append (a b : List IM) : namesOf (a ++ b) = namesOf a ++ namesOf b := by simp [namesOf]
theorem namesOf_cons (x : IM) (b : List IM) : namesOf (x :: b) = x.names ++ namesOf b := rfl
theorem manyOf_append (a b : List IM) : manyOf (a ++ b) = manyOf a + manyOf b := by simp [manyOf]
theorem manyOf_one (x : IM) : manyOf [x] = if x.mks.m = true then 1 else 0 := by
 unfold manyOf
 by_cases h : x.mks.m = true
 ·simp [h]
 ·simp [h]

/-! ### on the heap -/
def itRow : List Value → List IM → List Value
 | nv :: nvs, x :: l => itCells nv x.mks ++ itRow nvs l
 | _, _ => []
theorem itRow_snoc : ∀ (nvs : List Value) (l : List IM) (nv : Value) (x : IM), nvs.length = l.length → itRow (nvs ++ [nv]) (l ++ [x]) = itRow nvs l ++ itCells nv x.mks
 | [], [], nv, x, _ => by simp [itRow]
 | a :: nvs, y :: l, nv, x, h => by
  simp only [List.cons_append, itRow, List.append_assoc]
  rw [itRow_snoc nvs l nv x (by simpa using h)]
theorem itRow_at : ∀ (nvs : List Value) (l : List IM) (j : Nat) (nv : Value) (x : IM), nvs[j]? = some nv → l[j]? = some x → ((itRow nvs l).drop (j * 7)).take 7 = itCells nv x.mks
 | a :: nvs, y :: l, 0, nv, x, h1, h2 => by
  simp at h1 h2
  subst h1 h2
  rfl
 | a :: nvs, y :: l, j + 1, nv, x, h1, h2 => by
  simp only [itRow]
  rw [show (j + 1) * 7 = 7 + j * 7 by omega, ← List.drop_drop]
  have : List.drop 7 (itCells a y.mks ++ itRow nvs l) = itRow nvs l := rfl
  rw [this]
  exact itRow_at nvs l j nv x (by simpa using h1) (by simpa using h2)
 | [], _, j, nv, x, h1, _ => by simp at h1
 | _ :: _, [], j, nv, x, _, h2 => by simp at h2

/-- a heap holds a list of items; all of it lies from the block lo - 1 on -/
def ItR (lo : Nat) (st : St) (v : Value) (l : List IM) : Prop :=
 ∃ nvs : List Value, nvs.length = l.length ∧ GroK 7 st v (itRow nvs l) l.length ∧ (ow v = 0 ∨ lo ≤ ow v) ∧ ow v ≤ st.next ∧
  ∀ (j : Nat) (nv : Value) (x : IM), nvs[j]? = some nv → l[j]? = some x → Cel st nv (x.names.map Value.string) ∧ oneCell nv = true ∧ (ow nv = 0 ∨ (lo ≤ ow nv ∧ ow nv ≠ ow v)) ∧ ow nv ≤ st.next

theorem ItR.nil (lo : Nat) (st : St) : ItR lo st (.slice none 0 0) [] := ⟨[], rfl, GroK.nil _ _, .inl rfl, Nat.zero_le _, fun j nv x h => by simp at h⟩
theorem ItR.keep {lo : Nat} {st st' : St} {v : Value} {l : List IM} (h : ItR lo st v l) (hn : st.next ≤ st'.next) (hf : ∀ i, lo ≤ i + 1 → i < st.next → st'.get i = st.get i) : ItR lo st' v l := by
 obtain ⟨nvs, h1, h2, h3, h4, h5⟩ := h
 refine ⟨nvs, h1, h2.keep fun i hi => hf i (by omega) (by omega), h3, by omega, fun j nv x hj hx => ?_⟩
 obtain ⟨k1, k2, k3, k4⟩ := h5 j nv x hj hx
 exact ⟨k1.keep fun i hi => hf i (by omega) (by omega), k2, k3, by omega⟩
theorem ItR.weak {lo lo' : Nat} {st : St} {v : Value} {l : List IM} (h : ItR lo st v l) (hl : lo' ≤ lo) : ItR lo' st v l := by
 obtain ⟨nvs, h1, h2, h3, h4, h5⟩ := h
 refine ⟨nvs, h1, h2, by omega, h4, fun j nv x hj hx => ?_⟩
 obtain ⟨k1, k2, k3, k4⟩ := h5 j nv x hj hx
 exact ⟨k1, k2, by omega, k4⟩
theorem ItR.len {lo : Nat} {st : St} {v : Value} {l : List IM} (h : ItR lo st v l) (K : Value → Prop) : popK .lenSl [v] K = K (.int .i64 (l.length : Nat)) := by
 obtain ⟨nvs, h1, h2, _⟩ := h
 rcases h2 with ⟨q1, q2, q3⟩ | ⟨b, cap, q1, _⟩
 ·rw [q1, q3]; rfl
 ·rw [q1, pk_lenSl]
theorem ItR.at {lo : Nat} {st : St} {v : Value} {l : List IM} (h : ItR lo st v l) {j : Nat} (hj : j < l.length) : ∃ (b : Nat) (nv : Value), (∀ K : Value → Prop, popK (.indexAddr 7) [v, .int .i64 (j : Int)] K = K (.pointer (some ⟨b, j * 7, none⟩))) ∧ (∀ K : Value → Prop, ropK (.loadN 7) [.pointer (some ⟨b, j * 7, none⟩)] st K = K (.agg (itCells nv l[j].mks).toArray)) ∧
  (∀ (k : Nat) (c : Value), (itCells nv l[j].mks)[k]? = some c → ∀ K : Value → Prop, ropK .load1 [.pointer (some ⟨b, j * 7 + k, none⟩)] st K = K c) ∧ Cel st nv (l[j].names.map Value.string) ∧ oneCell nv = true ∧ (ow nv = 0 ∨ lo ≤ ow nv) ∧ ow nv ≤ st.next := by
 obtain ⟨nvs, h1, h2, h3, h4, h5⟩ := h
 rcases h2 with ⟨q1, q2, q3⟩ | ⟨b, cap, q1, q2, q3, q4⟩
 ·omega
 have hnv : nvs[j]? = some (nvs[j]'(by omega)) := List.getElem?_eq_getElem _
 have hx : l[j]? = some l[j] := List.getElem?_eq_getElem _
 obtain ⟨k1, k2, k3, k4⟩ := h5 j _ _ hnv hx
 have hat := itRow_at nvs l j _ _ hnv hx
 refine ⟨b, nvs[j]'(by omega), fun K => ?_, fun K => rk_loadK q3 hat rfl (by decide) K, fun k c hc K => ?_, k1, k2, by omega, k4⟩
 ·rw [q1, pk_indexAddr]
  have e : (0 : Nat) + (j : Int).toNat * 7 = j * 7 := by omega
  rw [e]
  exact propext ⟨fun h => h.2, fun h => ⟨⟨by omega, by omega⟩, h⟩⟩
 ·rw [rk_load1, q3]
  simp only [getK, rowK]
  refine nthK_at ?_ K
  rw [← hat] at hc
  have hk : k < 7 := by
   have := (List.getElem?_eq_some_iff.1 hc).1
   rw [List.length_take] at this
   omega
  rw [List.getElem?_take_of_lt hk, List.getElem?_drop] at hc
  exact hc
theorem ItR.snoc {lo : Nat} {st st' : St} {v v' nv : Value} {l : List IM} {x : IM} {nvs : List Value} (h1 : nvs.length = l.length) (h5 : ∀ (j : Nat) (nv : Value) (x : IM), nvs[j]? = some nv → l[j]? = some x → Cel st nv (x.names.map Value.string) ∧ oneCell nv = true ∧ (ow nv = 0 ∨ (lo ≤ ow nv ∧ ow nv ≠ ow v)) ∧ ow nv ≤ st.next)
  (hg : GroK 7 st' v' (itRow nvs l ++ itCells nv x.mks) (l.length + 1)) (hn : st.next ≤ st'.next) (hf : ∀ i, i + 1 ≠ ow v → i < st.next → st'.get i = st.get i) (hv' : lo ≤ ow v' ∧ st.next < ow v' ∧ ow v' ≤ st'.next)
  (hc : Cel st nv (x.names.map Value.string)) (ho : oneCell nv = true) (hw : ow nv = 0 ∨ (lo ≤ ow nv ∧ ow nv ≠ ow v)) (hwn : ow nv ≤ st.next) : ItR lo st' v' (l ++ [x]) := by
 refine ⟨nvs ++ [nv], by simp [h1], by rw [itRow_snoc _ _ _ _ h1, List.length_append]; exact hg, .inr hv'.1, hv'.2.2, fun j nv' x' hj hx => ?_⟩
 by_cases hjl : j < l.length
 ·rw [List.getElem?_append_left (by omega)] at hj hx
  obtain ⟨k1, k2, k3, k4⟩ := h5 j nv' x' hj hx
  refine ⟨k1.keep fun i hi => hf i (by omega) (by omega), k2, by omega, by omega⟩
 ·rw [List.getElem?_append_right (by omega)] at hj hx
  have e1 : j - nvs.length = 0 := by
   have := (List.getElem?_eq_some_iff.1 hj).1
   simp at this
   omega
  rw [e1] at hj
  rw [show j - l.length = 0 by omega] at hx
  simp at hj hx
  subst hj hx
  exact ⟨hc.keep fun i hi => hf i (by omega) (by omega), ho, by omega, by omega⟩

/-- the names that were seen -/
def Seen (es : List (Value × Value × Nat)) (ns : List ByteArray) : Prop := es.map (fun e => (e.1, e.2.1)) = ns.map fun n => (Value.string n, Value.bool true)

theorem Seen.find : ∀ {es : List (Value × Value × Nat)} {ns : List ByteArray}, Seen es ns → ∀ (q : ByteArray) (i : Nat), (q ∈ ns → ∃ k, findV .str (.string q) es i = some (some (k, .bool true))) ∧ (q ∉ ns → findV .str (.string q) es i = some none)
 | [], [], _, q, i => ⟨fun h => (by cases h), fun _ => rfl⟩
 | e :: es, n :: ns, h, q, i => by
  simp only [Seen, List.map_cons, List.cons.injEq, Prod.mk.injEq] at h
  obtain ⟨⟨h1, h2⟩, h3⟩ := h
  obtain ⟨k1, k2⟩ := Seen.find (es := es) (ns := ns) h3 q (i + 1)
  simp only [findV, h1, h2, sameV, bytes_beq]
  by_cases hq : q = n
  ·subst hq
   simp
  ·simp only [hq, decide_false, List.mem_cons, false_or]
   exact ⟨k1, k2⟩
 | [], n :: ns, h, _, _ => by simp [Seen] at h
 | e :: es, [], h, _, _ => by simp [Seen] at h
theorem Seen.snoc {es : List (Value × Value × Nat)} {ns : List ByteArray} (h : Seen es ns) (q : ByteArray) (c : Nat) : Seen (es ++ [(.string q, .bool true, c)]) (ns ++ [q]) := by
 unfold Seen at *
 rw [List.map_append, h, List.map_append]
 rfl
end Go.Proofs.YtdmemibnphcedaaGreatDoor
end
section
set_option linter.unusedSimpArgs false
set_option linter.unusedVariables false
set_option maxRecDepth 10000
set_option linter.unusedSectionVars false
namespace Go.Proofs.YtdmemibnphcedaaGreatDoor
open Go.Am
attribute [local irreducible] callO wopK ropK popK opK grpsE listE sx Runs

/-- between two parts -/
def TL1 (st : St) (pv : Value) (ps : List ByteArray) (vs : List Value) (s : St) : Prop :=
 ∃ (done : List IM) (j : Nat) (out : Value) (es : List (Value × Value × Nat)) (c : Nat), vs = [out, .map (some st.next), pv, .int .i64 (manyOf done : Nat), pv, .int .i64 (ps.length : Nat), .int .i64 (j : Nat)] ∧ j ≤ ps.length ∧ itemsA (ps.take j) = some done ∧
  ItR (st.next + 3) s out done ∧ s.get st.next = some (.map es c) ∧ Seen es (namesOf done) ∧ (namesOf done).Nodup ∧ (∀ i y, done[i]? = some y → i + 1 < ps.length → y.mks.f = false) ∧ st.next < s.next ∧ (∀ i, i < st.next → s.get i = st.get i) ∧ Row1 s pv (ps.map Value.string) ∧ ow pv ≤ s.next ∧ ow pv = st.next + 2

/-- between two names -/
def TL2 (st s3 : St) (pv out nv : Value) (ps : List ByteArray) (done : List IM) (x : IM) (bx j : Nat) (vs : List Value) (s : St) : Prop :=
 ∃ (k : Nat) (es : List (Value × Value × Nat)) (c : Nat), vs = [out, .map (some st.next), pv, .int .i64 (manyOf done : Nat), .pointer (some ⟨bx, 0, none⟩), pv, .int .i64 (ps.length : Nat), .int .i64 (j : Nat), nv, .int .i64 (x.names.length : Nat), .int .i64 (k : Nat)] ∧ k ≤ x.names.length ∧
  s.get st.next = some (.map es c) ∧ Seen es (namesOf done ++ x.names.take k) ∧ (namesOf done ++ x.names.take k).Nodup ∧ s.next = s3.next ∧ ∀ i, i ≠ st.next → s.get i = s3.get i

theorem itemA_names {s : ByteArray} {x : IM} (h : itemA s = some x) : x.names.length ≤ s.size + 1 := by
 unfold itemA at h
 split at h
 ·rename_i hd t hp
  split at h
  ·rename_i mks hm
   split at h
   ·cases h
    have h1 := pieces_length 61 hd
    have h2 := pieces_size (c := 47) (s := s) (p := hd) (by rw [hp]; simp)
    show (pieces 61 hd).length ≤ _
    omega
   ·cases h
  ·cases h
 ·cases h

section
variable {st : St} {K : Value → St → Prop}

set_option maxHeartbeats 8000000 in
theorem kTemplate (n : Nat) (t : ByteArray) (ht : t.size < 80000) (h0 : 0 < st.next) (hm : hasMax st = true) (h : ∀ l e v st', TmA t l e → ItR (st.next + 1) st' v l → Frm st st' → K (.tuple #[v, .int .i64 e]) st') :
  callK (callO T0 orc fns 100000 (n + 6)) 16 [.string t] st K := by
 refine fn_runs (fn := g16) ?_ ?_ ?_
 ·rfl
 ·rfl
 unfold g16
 by_cases h1 : t = ByteArray.empty
 ·have e1 : (t = ByteArray.empty) = True := eq_true h1
  simp (disch := omega) only [↓sxA, ↓wk_store, sxB, sxP, simprocAttr, e1]
  exact h [] 0 _ st (.nil h1) (ItR.nil _ _) (Frm.refl _)
 have e1 : (t = ByteArray.empty) = False := eq_false h1
 have F1 := Frm.new st (.map [] 0)
 simp (disch := omega) only [↓sxA, ↓wk_store, sxB, sxP, simprocAttr, e1]
 refine kSplit (n + 5) t 44 (by omega) (F1.max h0 hm) fun s2 r2 n2 f2 => ?_
 have n2' : s2.next = st.next + 2 := n2
 have hmp : s2.get st.next = some (.map [] 0) := (f2 _ (Nat.lt_succ_self _)).trans (get_new_same _ _)
 have hlen : (pieces 44 t).length ≤ t.size + 1 := pieces_length 44 t
 have hsz : ∀ p ∈ pieces 44 t, p.size ≤ t.size := fun p hp => pieces_size hp
 have hbadT : (∀ l, itemsA (pieces 44 t) = some l → ¬ goodA l) → TmA t [] 3 := fun hh => .bad h1 hh
 have hlongT : ∀ l, itemsA (pieces 44 t) = some l → goodA l → 20 < l.length → TmA t [] 2 := fun l k1 k2 k3 => .long l h1 k1 k2 k3
 have hokT : ∀ l, itemsA (pieces 44 t) = some l → goodA l → l.length ≤ 20 → TmA t l 0 := fun l k1 k2 k3 => .ok l h1 k1 k2 k3
 have how : ow (Value.slice (some ⟨(st.new (.map [] 0)).next, 0, none⟩) (pieces 44 t).length (pieces 44 t).length) = st.next + 2 := rfl
 have hln : ∀ K : Value → Prop, popK .lenSl [Value.slice (some ⟨(st.new (.map [] 0)).next, 0, none⟩) (pieces 44 t).length (pieces 44 t).length] K = K (.int .i64 ((pieces 44 t).length : Nat)) := fun K => pk_lenSl _ _ _
 generalize Value.slice (some ⟨(st.new (.map [] 0)).next, 0, none⟩) (pieces 44 t).length (pieces 44 t).length = pv at r2 how hln
 have f2' : ∀ i, i < st.next → s2.get i = st.get i := fun i hi => (f2 i (by show i < st.next + 1; omega)).trans (get_new_ne _ _ _ (by omega))
 generalize pieces 44 t = ps at r2 hlen hsz hbadT hlongT hokT hln
 clear f2 n2
 simp (disch := omega) only [↓sxA, ↓wk_store, sxB, sxP, simprocAttr, ↓hln]
 refine loop_rule [4, 5, 6, 7, 19, 20, 21] (TL1 st pv ps) (fun vs _ => match lget vs 6 with
   | .int _ k => ((ps.length : Int) - k).toNat
   | _ => 0) ?_ ?_ ?_
 ·rfl
 ·refine ⟨_, rfl, ⟨[], 0, _, [], 0, rfl, Nat.zero_le _, rfl, ItR.nil _ _, hmp, rfl, List.nodup_nil, fun i y hi => by simp at hi, by omega, f2', r2, by omega, by omega⟩, ?_⟩
  show ((ps.length : Int) - 0).toNat < 100000
  omega
 ·clear hmp f2' r2 n2' s2
  rintro vs s ⟨done, j, out, es, c, rfl, hj, hit, hR, hmp, hseen, hnd, hrest, hnx, hf, hr, hpw, hpl⟩
  show sx _ _ _ _ _ [(4, _), (5, _), (6, _), (7, _), (19, _), (20, _), (21, _)] _ _ _ _
  have F : Frm st s := ⟨by omega, hf⟩
  by_cases hjp : j < ps.length
  ·have ix := idx_cel hr.cel .i64 (j : Int)
   rw [List.length_map] at ix
   have ld : ∀ K : Value → Prop, ropK .load1 [bptr pv (j : Int)] s K = K (.string (ps.getD j .empty)) := fun K => by
    rw [load_cel hr.cel (j : Int) K (by omega) (by rw [List.length_map]; omega), Int.toNat_natCast, getD_str _ j hjp]
   have hpj : ps.getD j .empty = ps[j] := by rw [List.getD_eq_getElem?_getD, List.getElem?_eq_getElem hjp, Option.getD_some]
   rw [hpj] at ld
   have hps := hsz _ (List.getElem_mem hjp)
   have hat : ∀ l, itemsA ps = some l → ∃ x r, itemA ps[j] = some x ∧ l = done ++ x :: r ∧ r.length = ps.length - j - 1 := fun l hl => items_at hjp hit hl
   have hsn : ∀ x, itemA ps[j] = some x → itemsA (ps.take (j + 1)) = some (done ++ [x]) := fun x hx => items_snoc hjp hit hx
   have hdl : done.length = j := by rw [itemsA_length hit, List.length_take]; omega
   generalize ps[j] = p at ld hps hat hsn
   simp (disch := omega) only [↓sxA, ↓wk_store, sxB, sxP, simprocAttr, ↓ix, ↓ld]
   refine kItem n p (by omega) (by omega) (F.max h0 hm) (fun hb l hl hlo s3 F3 => ?_) (fun x hx nv s3 F3 hnv ho1 how1 hown => ?_)
   ·-- no item
    have st7 := fun W => wk_storeK (W := W) (get_new_same s3 (.row zero7 0 false)) (o := 0) (k := 7) (xs := l) (by decide) hl hlo
    simp (disch := omega) only [↓sxA, ↓wk_store, sxB, sxP, simprocAttr, ↓st7]
    refine h [] 3 _ _ (hbadT fun l hl => ?_) (ItR.nil _ _) (((F.trans F3).trans (Frm.new s3 _)).put _ (by have := F3.nx; omega) _)
    obtain ⟨x, r, hx, _⟩ := hat l hl
    rw [hb] at hx
    cases hx
   ·obtain ⟨s4, hs4⟩ : ∃ s4, s4 = (s3.new (.row zero7 0 false)).put s3.next (some (.row [nv, .bool x.mks.a, .bool x.mks.k, .bool x.mks.s, .bool x.mks.n, .bool x.mks.m, .bool x.mks.f] 0 false)) := ⟨_, rfl⟩
    have st7 : ∀ W : Value → St → Prop, wopK (.store 7) [.pointer (some ⟨s3.next, 0, none⟩), .agg (itCells nv x.mks).toArray] (s3.new (.row zero7 0 false)) W = W undef s4 :=
     fun W => by rw [hs4]; exact wk_storeK (W := W) (get_new_same s3 (.row zero7 0 false)) (o := 0) (k := 7) (xs := itCells nv x.mks) (by decide) rfl (it7 ho1 _)
    have hnl := itemA_names hx
    have hbx : s4.get s3.next = some (.row [nv, .bool x.mks.a, .bool x.mks.k, .bool x.mks.s, .bool x.mks.n, .bool x.mks.m, .bool x.mks.f] 0 false) := by rw [hs4]; exact get_put_same _ _ _
    have n4 : s4.next = s3.next + 1 := by rw [hs4]; rfl
    have f4 : ∀ i, i < s3.next → s4.get i = s3.get i := fun i hi => by rw [hs4, get_put_ne _ _ _ _ (by omega), get_new_ne _ _ _ (by omega)]
    have hn3 := F3.nx
    have F4 : Frm s s4 := F3.trans ⟨by omega, f4⟩
    have Fst : Frm st s4 := F.trans F4
    have hnv4 : Cel s4 nv (x.names.map Value.string) := hnv.keep fun i hi => f4 i (by omega)
    have lnv := len_cel hnv4
    rw [List.length_map] at lnv
    have hmp4 : s4.get st.next = some (.map es c) := (F4.old _ hnx).trans hmp
    have early : x.mks.f = true → (j : Int) < (ps.length : Int) - 1 → K (.tuple #[.slice none 0 0, .int .i64 3]) s4 := fun hxf hlt => by
     refine h [] 3 _ _ (hbadT fun l hl hg => ?_) (ItR.nil _ _) Fst
     obtain ⟨x', r, hx', hl', hrl⟩ := hat l hl
     rw [hx] at hx'
     cases hx'
     have := (restOk_iff l).1 hg.1 j x (by rw [hl', List.getElem?_append_right (by omega), hdl]; simp) (by rw [hl', List.length_append, List.length_cons]; omega)
     rw [hxf] at this
     cases this
    have hdup : ∀ (k : Nat) (q : ByteArray), k < x.names.length → x.names[k]? = some q → q ∈ namesOf done ++ x.names.take k → ∀ l, itemsA ps = some l → ¬ goodA l := fun k q hk hq hin l hl hg => by
     obtain ⟨x', r, hx', hl', hrl⟩ := hat l hl
     rw [hx] at hx'
     cases hx'
     have hnod := hg.2.1
     have hqk : x.names[k] = q := by rw [List.getElem?_eq_getElem hk] at hq; exact Option.some.inj hq
     rw [hl', namesOf_append, namesOf_cons] at hnod
     have e : x.names = x.names.take k ++ q :: x.names.drop (k + 1) := by rw [← hqk, ← List.drop_eq_getElem_cons hk, List.take_append_drop]
     rw [e, List.append_assoc, ← List.append_assoc, List.cons_append] at hnod
     rw [List.nodup_append] at hnod
     exact hnod.2.2 q hin q (by simp) rfl
    by_cases hE : x.mks.f = true ∧ (j : Int) < (ps.length : Int) - 1
    ·have hfv := hE.1
     have hlt := hE.2
     simp (disch := omega) only [↓sxA, ↓wk_store, sxB, sxP, simprocAttr, ↓st7, hbx, hfv, ↓hln]
     exact early hfv hlt
    have hcase : x.mks.f = false ∨ (x.mks.f = true ∧ ¬ (j : Int) < (ps.length : Int) - 1) := by
     cases hh : x.mks.f with
     | false => exact .inl rfl
     | true => exact .inr ⟨rfl, fun hlt => hE ⟨hh, hlt⟩⟩
    rcases hcase with hfv | ⟨hfv, hlast⟩
    all_goals
     simp (disch := omega) only [↓sxA, ↓wk_store, sxB, sxP, simprocAttr, ↓st7, hbx, hfv, ↓hln, ↓lnv]
     refine loop_rule [4, 5, 6, 7, 10, 19, 20, 21, 45, 46, 47] (TL2 st s4 pv out nv ps done x s3.next j) (fun vs _ => match lget vs 10 with
       | .int _ k => ((x.names.length : Int) - k).toNat
       | _ => 0) ?_ ?_ ?_
     ·rfl
     ·refine ⟨_, rfl, ⟨0, es, c, rfl, Nat.zero_le _, hmp4, by simpa using hseen, by simpa using hnd, rfl, fun _ _ => rfl⟩, ?_⟩
      show ((x.names.length : Int) - 0).toNat < 100000
      omega
     ·clear early hmp hmp4 hseen hnd
      rintro vs s5 ⟨k, es, c, rfl, hk, hmp, hseen, hnd, n5, f5⟩
      show sx _ _ _ _ _ [(4, _), (5, _), (6, _), (7, _), (10, _), (19, _), (20, _), (21, _), (45, _), (46, _), (47, _)] _ _ _ _
      have hnv5 : Cel s5 nv (x.names.map Value.string) := hnv4.keep fun i hi => f5 i (by omega)
      have F5 : Frm st s5 := ⟨by have := Fst.nx; omega, fun i hi => (f5 i (by omega)).trans (Fst.old i hi)⟩
      by_cases hkn : k < x.names.length
      ·have ix5 := idx_cel hnv5 .i64 (k : Int)
       rw [List.length_map] at ix5
       have hqk : x.names[k]? = some (x.names.getD k .empty) := by rw [List.getD_eq_getElem?_getD, List.getElem?_eq_getElem hkn]; rfl
       have ld5 : ∀ K : Value → Prop, ropK .load1 [bptr nv (k : Int)] s5 K = K (.string (x.names.getD k .empty)) := fun K => by
        rw [load_cel hnv5 (k : Int) K (by omega) (by rw [List.length_map]; omega), Int.toNat_natCast, getD_str _ k hkn]
       have htk : x.names.take (k + 1) = x.names.take k ++ [x.names.getD k .empty] := by rw [List.take_add_one, hqk]; rfl
       have hdq := hdup k _ hkn hqk
       generalize x.names.getD k .empty = q at ld5 htk hdq
       by_cases hin : q ∈ namesOf done ++ x.names.take k
       ·obtain ⟨k', hk'⟩ := (hseen.find q 0).1 hin
        have hlk := lookK_hit1 hk'
        simp (disch := omega) only [↓sxA, ↓wk_store, sxB, sxP, simprocAttr, ↓ix5, ↓ld5, hmp, ↓hlk]
        exact h [] 3 _ _ (hbadT (hdq hin)) (ItR.nil _ _) F5
       ·have hk' := (hseen.find q 0).2 hin
        have hlk := lookK_miss1 hk'
        have hst := setK_miss hk'
        simp (disch := omega) only [↓sxA, ↓wk_store, sxB, sxP, simprocAttr, ↓ix5, ↓ld5, hmp, ↓hlk, ↓hst]
        refine ⟨_, rfl, ⟨k + 1, _, _, rfl, hkn, get_put_same _ _ _, ?_, ?_, n5, fun i hi => (get_put_ne _ _ _ _ (Ne.symm hi)).trans (f5 i hi)⟩, ?_⟩
        ·rw [htk, ← List.append_assoc]; exact hseen.snoc q c
        ·rw [htk, ← List.append_assoc, List.nodup_append]
         refine ⟨hnd, by simp, fun a ha b hb => ?_⟩
         simp at hb
         subst hb
         exact fun e => hin (e ▸ ha)
        ·show ((x.names.length : Int) - ((k : Int) + 1)).toNat < ((x.names.length : Int) - (k : Int)).toNat
         omega
      ·have htk : x.names.take k = x.names := List.take_of_length_le (by omega)
       rw [htk] at hseen hnd
       have hbx5 := (f5 s3.next (by omega)).trans hbx
       have all5 := rk_loadAll (k := 7) hbx5 rfl (by decide)
       have hR5 : ItR (st.next + 3) s5 out done := (hR.keep (st' := s4) F4.nx (fun i _ hi => F4.old i hi)).keep (by omega) fun i hi _ => f5 i (by omega)
       obtain ⟨nvs, g1, g2, g3, g4, g5⟩ := hR5
       obtain ⟨nvs', g1', g2', g3', g4', g5'⟩ := hR
       have hnx5 : (s5.new (.row [nv, .bool x.mks.a, .bool x.mks.k, .bool x.mks.s, .bool x.mks.n, .bool x.mks.m, .bool x.mks.f] 0 false)).next = s5.next + 1 := rfl
       -- the item is laid on
       have lay : ∀ W : Value → St → Prop, (∀ v' s6, ItR (st.next + 3) s6 v' (done ++ [x]) → s6.get st.next = some (.map es c) → (∀ i, i < st.next → s6.get i = st.get i) → s5.next ≤ s6.next → Row1 s6 pv (ps.map Value.string) → W v' s6) → wopK (.append 7 32) [out, .slice (some ⟨s5.next, 0, none⟩) 1 1] (s5.new (.row [nv, .bool x.mks.a, .bool x.mks.k, .bool x.mks.s, .bool x.mks.n, .bool x.mks.m, .bool x.mks.f] 0 false)) W := fun W hW => by
        refine appendK (new := [nv, .bool x.mks.a, .bool x.mks.k, .bool x.mks.s, .bool x.mks.n, .bool x.mks.m, .bool x.mks.f]) (g2.keep fun i hi => get_new_ne _ _ _ (by omega)) (get_new_same _ _) rfl (by decide) (it7 ho1 x.mks) (by omega) (by omega) fun s6 k1 k2 k3 => ?_
        have fr : ∀ i, i + 1 ≠ ow out → i < s5.next → s6.get i = s5.get i := fun i hi hlt => (k3 i hi (by omega)).trans (get_new_ne _ _ _ (by omega))
        refine hW _ s6 (ItR.snoc g1 g5 k1 (by omega) fr ⟨?_, ?_, ?_⟩ hnv5 ho1 (by omega) (by omega)) ((fr _ (by omega) (by omega)).trans hmp) (fun i hi => (fr i (by omega) (by omega)).trans (F5.old i hi)) (by omega) ?_
        ·show st.next + 3 ≤ s5.next + 1 + 1; omega
        ·show s5.next < s5.next + 1 + 1; omega
        ·show s5.next + 1 + 1 ≤ s6.next; omega
        ·exact hr.keep fun i hi => (fr i (by omega) (by omega)).trans ((f5 i (by omega)).trans (F4.old i (by omega)))
       have hmm : manyOf (done ++ [x]) = manyOf done + manyOf [x] := manyOf_append _ _
       rw [manyOf_one] at hmm
       have hns : namesOf (done ++ [x]) = namesOf done ++ x.names := by rw [namesOf_append]; simp [namesOf]
       have hmeas : ((ps.length : Int) - ((j : Int) + 1)).toNat < ((ps.length : Int) - (j : Int)).toNat := by omega
       have hrest' : ∀ i y, (done ++ [x])[i]? = some y → i + 1 < ps.length → y.mks.f = false := fun i y hi hil => by
        by_cases hid : i < done.length
        ·rw [List.getElem?_append_left hid] at hi; exact hrest i y hi hil
        ·rw [List.getElem?_append_right (by omega)] at hi
         have e0 : i - done.length = 0 := by
          have := (List.getElem?_eq_some_iff.1 hi).1
          simp at this
          omega
         rw [e0] at hi
         simp at hi
         subst hi
         first
         | exact hfv
         | (exfalso; omega)
       have fin : ∀ (many : Int) v' s6, many = (manyOf (done ++ [x]) : Nat) → ItR (st.next + 3) s6 v' (done ++ [x]) → s6.get st.next = some (.map es c) → (∀ i, i < st.next → s6.get i = st.get i) → s5.next ≤ s6.next → Row1 s6 pv (ps.map Value.string) →
         TL1 st pv ps [v', .map (some st.next), pv, .int .i64 many, pv, .int .i64 (ps.length : Nat), .int .i64 ((j : Int) + 1)] s6 := fun many v' s6 e k1 k2 k3 k4 k5 => by
        subst e
        exact ⟨done ++ [x], j + 1, v', es, c, rfl, hjp, hsn x hx, k1, k2, by rw [hns]; exact hseen, by rw [hns]; exact hnd, hrest', by omega, k3, k5, by omega, hpl⟩
       have hml : manyOf done ≤ done.length := List.length_filter_le _ _
       cases hmv : x.mks.m with
       | true =>
        simp (disch := omega) only [↓sxA, ↓wk_store, sxB, sxP, simprocAttr, hbx5, hmv, ↓all5]
        rw [hmv] at lay
        refine lay _ fun v' s6 k1 k2 k3 k4 k5 => ?_
        simp (disch := omega) only [↓sxA, ↓wk_store, sxB, sxP, simprocAttr]
        exact ⟨_, rfl, fin _ v' s6 (by rw [hmm, if_pos hmv]; rfl) k1 k2 k3 k4 k5, hmeas⟩
       | false =>
        simp (disch := omega) only [↓sxA, ↓wk_store, sxB, sxP, simprocAttr, hbx5, hmv, ↓all5]
        rw [hmv] at lay
        refine lay _ fun v' s6 k1 k2 k3 k4 k5 => ?_
        simp (disch := omega) only [↓sxA, ↓wk_store, sxB, sxP, simprocAttr]
        exact ⟨_, rfl, fin _ v' s6 (by rw [hmm, if_neg (by rw [hmv]; decide)]; rfl) k1 k2 k3 k4 k5, hmeas⟩
  ·have hjl : j = ps.length := by omega
   have hps : ps.take j = ps := List.take_of_length_le (by omega)
   rw [hps] at hit
   have hdl := itemsA_length hit
   have hlo := hR.len
   have hro : restOk done = true := (restOk_iff done).2 fun i y hi hl => hrest i y hi (by omega)
   by_cases hm1 : 1 < manyOf done
   ·simp (disch := omega) only [↓sxA, ↓wk_store, sxB, sxP, simprocAttr]
    refine h [] 3 _ _ (hbadT fun l hl hg => ?_) (ItR.nil _ _) F
    rw [hit] at hl
    cases hl
    exact absurd hg.2.2 (by omega)
   ·have hg : goodA done := ⟨hro, hnd, by omega⟩
    by_cases h20 : 20 < done.length
    ·simp (disch := omega) only [↓sxA, ↓wk_store, sxB, sxP, simprocAttr, ↓hlo]
     exact h [] 2 _ _ (hlongT done hit hg h20) (ItR.nil _ _) F
    ·simp (disch := omega) only [↓sxA, ↓wk_store, sxB, sxP, simprocAttr, ↓hlo]
     exact h done 0 _ _ (hokT done hit hg (by omega)) (hR.weak (by omega)) F
end
end Go.Proofs.YtdmemibnphcedaaGreatDoor
end
section
set_option linter.unusedSimpArgs false
set_option linter.unusedVariables false
set_option maxRecDepth 10000
set_option linter.unusedSectionVars false
namespace Go.Proofs.YtdmemibnphcedaaGreatDoor
open Go.Am
attribute [local irreducible] callO wopK ropK popK opK grpsE listE sx Runs

/-- a list of items; no part of it lies in the block a - 1 -/
def ItV (lo a : Nat) (st : St) (v : Value) (l : List IM) (nvs : List Value) : Prop :=
 nvs.length = l.length ∧ GroK 7 st v (itRow nvs l) l.length ∧ (ow v = 0 ∨ (lo ≤ ow v ∧ ow v ≠ a)) ∧ ow v ≤ st.next ∧
  ∀ (j : Nat) (nv : Value) (x : IM), nvs[j]? = some nv → l[j]? = some x → Cel st nv (x.names.map Value.string) ∧ oneCell nv = true ∧ (ow nv = 0 ∨ (lo ≤ ow nv ∧ ow nv ≠ ow v ∧ ow nv ≠ a)) ∧ ow nv ≤ st.next

theorem ItV.keep {lo a a' : Nat} {st st' : St} {v : Value} {l : List IM} {nvs : List Value} (h : ItV lo a st v l nvs) (hn : st.next ≤ st'.next) (hf : ∀ i, i + 1 ≠ a → lo ≤ i + 1 → i < st.next → st'.get i = st.get i) (ha : a' = a ∨ a' = 0 ∨ st.next < a') : ItV lo a' st' v l nvs := by
 obtain ⟨h1, h2, h3, h4, h5⟩ := h
 refine ⟨h1, h2.keep fun i hi => hf i (by omega) (by omega) (by omega), by omega, by omega, fun j nv x hj hx => ?_⟩
 obtain ⟨k1, k2, k3, k4⟩ := h5 j nv x hj hx
 exact ⟨k1.keep fun i hi => hf i (by omega) (by omega) (by omega), k2, by omega, by omega⟩

/-! ### how many names there are at most -/
theorem spl_sum (c : UInt8) : ∀ l, ((spl c l).map fun p => p.length + 1).sum = l.length + 1
 | [] => rfl
 | x :: l => by
  have ih := spl_sum c l
  simp only [spl]
  split
  ·simp [ih]; omega
  ·split
   ·rename_i p ps hp
    rw [hp] at ih
    simp only [List.map_cons, List.sum_cons, List.length_cons] at ih ⊢
    omega
   ·rename_i hp; exact (spl_ne c l hp).elim
section
variable {st : St} {K : Value → St → Prop}

end
end Go.Proofs.YtdmemibnphcedaaGreatDoor
end
section
set_option linter.unusedSimpArgs false
set_option linter.unusedVariables false
set_option maxRecDepth 10000
set_option linter.unusedSectionVars false
namespace Go.Proofs.YtdmemibnphcedaaGreatDoor
open Go.Am

theorem wk_rangeS {s : St} {W : Value → St → Prop} (b : ByteArray) : wopK (.range true) [.string b] s W = W (.pointer (some ⟨s.next, 0, none⟩)) (s.new (.strIter b 0)) := of_eq_true (eq_self _)
theorem next_chr {s : St} {i pos : Nat} {b : ByteArray} (hi : s.get i = some (.strIter b pos)) (hp : pos < b.size) {W : Value → St → Prop} (hW : W (.tuple #[.bool true, .int .i64 pos, .int .i32 (Utf8.decode b pos).1]) (s.put i (some (.strIter b (pos + (Utf8.decode b pos).2))))) : nextK true [.pointer (some ⟨i, 0, none⟩)] s W := by
 simp only [nextK, nextV, ne_eq, not_true_eq_false, if_false, hi, Bool.true_eq_false]
 rw [if_pos hp]
 exact hW
theorem next_chrEnd {s : St} {i pos : Nat} {b : ByteArray} (hi : s.get i = some (.strIter b pos)) (hp : ¬ pos < b.size) {W : Value → St → Prop} (hW : W (.tuple #[.bool false]) s) : nextK true [.pointer (some ⟨i, 0, none⟩)] s W := by
 simp only [nextK, nextV, ne_eq, not_true_eq_false, if_false, hi, Bool.true_eq_false]
 rw [if_neg hp]
 exact hW

section
variable {st : St} {v : Value} {K : Value → St → Prop} {xs : List ByteArray}
theorem kJoin (n : Nat) (hv : Cel st v (xs.map Value.string)) (sep : ByteArray) (hl : xs.length ≤ 140737488355328) (hj : (Lib.join (xs.map (·.data.toList)) sep.data.toList).length ≤ 140737488355328) (hv0 : xs = [] → v = .slice none 0 0) (h : K (.string (bs (Lib.join (xs.map (·.data.toList)) sep.data.toList))) st) : callK (callO T0 orc fns 100000 n) 42 [v, .string sep] st K := by
 rw [callO_none (by rfl)]
 have e : orc 42 [v, .string sep] st = .ret (.string (bs (Lib.join (xs.map (·.data.toList)) sep.data.toList)), st) := by
  rw [orc_eq (by decide)]
  by_cases hx : xs = []
  ·rw [hv0 hx]
   subst hx
   rfl
  ·have hpos : 0 < xs.length := List.length_pos_iff.2 hx
   rcases hv with ⟨_, hc⟩ | ⟨b, o, cap, all, g, ro, h1, h2, h3, h4⟩ | ⟨ad, _, hc⟩
   ·exact (hx (by simpa using hc)).elim
   ·rw [List.length_map] at h1 h3 h4
    rw [h1]
    have hcl : st.cells ⟨b, o, none⟩ xs.length = some (xs.map Value.string) := by
     simp only [St.cells, h2]
     rw [if_pos h3, h4]
    have hne : ∀ c : Value, orc1 42 [.slice (some ⟨b, o, none⟩) xs.length cap, .string sep] st = (if 0 < xs.length then (match st.cells ⟨b, o, none⟩ xs.length with
      | some l => (match strsOf l with
       | some ys => if ys.length ≤ 140737488355328 ∧ (Lib.join (ys.map (·.data.toList)) sep.data.toList).length ≤ 140737488355328 then .ret (.string (joinV ys sep), st) else .fail
       | none => .fail)
      | none => .fail) else .fail) := fun _ => rfl
    rw [hne undef, if_pos hpos, hcl]
    simp only [strsOf_map]
    rw [if_pos ⟨hl, hj⟩]
    rfl
   ·exact (hx (by simpa using hc)).elim
 exact (propext (callK_ret (K := K) e)).mpr h
end
end Go.Proofs.YtdmemibnphcedaaGreatDoor
end
section
set_option linter.unusedSimpArgs false
set_option linter.unusedVariables false
set_option maxRecDepth 10000
set_option linter.unusedSectionVars false
namespace Go.Proofs.YtdmemibnphcedaaGreatDoor
open Go.Am

theorem join_len (c : UInt8) : ∀ xs : List (List UInt8), (Lib.join xs [c]).length ≤ (xs.map fun p => p.length + 1).sum
 | [] => by simp [Lib.join_nil]
 | x :: r => by
  rw [Lib.join_cons, List.length_append]
  have : ∀ r : List (List UInt8), (Lib.joinTail [c] r).length = (r.map fun p => p.length + 1).sum := fun r => by
   induction r with
   | nil => rfl
   | cons y r ih =>
    simp only [Lib.joinTail, List.map_cons, List.flatten_cons, List.length_append, List.length_cons, List.length_nil, List.sum_cons] at ih ⊢
    omega
  rw [this]
  simp only [List.map_cons, List.sum_cons]
  omega
theorem itemA_text {s : ByteArray} {x : IM} (h : itemA s = some x) : x.names ≠ [] ∧ (Lib.join (x.names.map (·.data.toList)) [61]).length ≤ s.size + 1 := by
 unfold itemA at h
 split at h
 ·rename_i hd t hp
  split at h
  ·rename_i mks hm
   split at h
   ·cases h
    have h2 := pieces_size (c := 47) (s := s) (p := hd) (by rw [hp]; simp)
    refine ⟨pieces_ne 61 hd, ?_⟩
    have e : (pieces 61 hd).map (·.data.toList) = spl 61 hd.data.toList := by
     rw [pieces, List.map_map]
     conv => rhs; rw [← List.map_id (spl 61 hd.data.toList)]
     exact List.map_congr_left fun l _ => bs_list l
    have h1 := join_len 61 (spl 61 hd.data.toList)
    rw [spl_sum, ← size_list] at h1
    show (Lib.join ((pieces 61 hd).map (·.data.toList)) [61]).length ≤ _
    rw [e]
    omega
   ·cases h
  ·cases h
 ·cases h
theorem items_mem : ∀ {ps : List ByteArray} {l : List IM}, itemsA ps = some l → ∀ x ∈ l, ∃ p ∈ ps, itemA p = some x
 | [], l, h, x, hx => by simp [itemsA] at h; subst h; cases hx
 | p :: ps, l, h, x, hx => by
  simp only [itemsA] at h
  cases hp : itemA p with
  | none => rw [hp] at h; cases h
  | some y =>
   rw [hp] at h
   simp only [Option.map_eq_some_iff] at h
   obtain ⟨m, h1, rfl⟩ := h
   rcases List.mem_cons.1 hx with rfl | hx
   ·exact ⟨p, by simp, hp⟩
   ·obtain ⟨q, k1, k2⟩ := items_mem h1 x hx
    exact ⟨q, by simp [k1], k2⟩
theorem tm_bounds {t : ByteArray} {l : List IM} {e : Int} (h : TmA t l e) : l.length ≤ 20 ∧ (e ≠ 0 → l = []) ∧ ∀ x ∈ l, x.names ≠ [] ∧ x.names.length ≤ t.size + 1 ∧ (Lib.join (x.names.map (·.data.toList)) [61]).length ≤ t.size + 1 := by
 cases h with
 | nil _ => exact ⟨Nat.zero_le _, fun _ => rfl, fun x hx => by cases hx⟩
 | long _ _ _ _ _ => exact ⟨Nat.zero_le _, fun _ => rfl, fun x hx => by cases hx⟩
 | bad _ _ => exact ⟨Nat.zero_le _, fun _ => rfl, fun x hx => by cases hx⟩
 | ok _ h0 h1 h2 h3 =>
  refine ⟨h3, fun h => (h rfl).elim, fun x hx => ?_⟩
  obtain ⟨p, hp, hpx⟩ := items_mem h1 x hx
  have hs := pieces_size hp
  obtain ⟨k1, k2⟩ := itemA_text hpx
  have k3 := itemA_names hpx
  exact ⟨k1, by omega, by omega⟩

section
variable {K : Value → Prop}
end
attribute [local irreducible] callO wopK ropK popK opK grpsE listE sx Runs

section
variable {st : St} {K : Value → St → Prop}

end
end Go.Proofs.YtdmemibnphcedaaGreatDoor
end
