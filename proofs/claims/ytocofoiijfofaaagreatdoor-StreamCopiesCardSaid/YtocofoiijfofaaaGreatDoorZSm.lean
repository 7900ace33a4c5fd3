/-
  What streams are, in plain words; and when a heap holds them.
-/
import Derived.Test.YtocofoiijfofaaaGreatDoorZRam2
set_option linter.unusedSimpArgs false
set_option linter.unusedVariables false
set_option maxRecDepth 10000
set_option linter.unusedSectionVars false
namespace Go.Proofs.YtocofoiijfofaaaGreatDoor
open Go.Am

/-! ### lists of pairs -/
section
variable {κ α : Type} [DecidableEq κ]
def aget : List (κ × α) → κ → Option α
  | [], _ => none
  | p :: l, q => if p.1 = q then some p.2 else aget l q
def aset : List (κ × α) → κ → α → List (κ × α)
  | [], q, x => [(q, x)]
  | p :: l, q, x => if p.1 = q then (q, x) :: l else p :: aset l q x
def adel : List (κ × α) → κ → List (κ × α)
  | [], _ => []
  | p :: l, q => if p.1 = q then l else p :: adel l q

theorem aset_keys (l : List (κ × α)) (q : κ) (x : α) : (aget l q).isSome = true → (aset l q x).map (·.1) = l.map (·.1) := by
  induction l with
  | nil => intro h; simp [aget] at h
  | cons p l ih =>
    intro h
    simp only [aget, aset] at h ⊢
    split
    · rename_i hp; simp [hp]
    · rename_i hp; rw [if_neg hp] at h; simp [ih h]
theorem aset_keys_new (l : List (κ × α)) (q : κ) (x : α) : aget l q = none → (aset l q x).map (·.1) = l.map (·.1) ++ [q] := by
  induction l with
  | nil => intro h; rfl
  | cons p l ih =>
    intro h
    simp only [aget, aset] at h ⊢
    split
    · rename_i hp; rw [if_pos hp] at h; cases h
    · rename_i hp; rw [if_neg hp] at h; simp [ih h]
theorem aget_none (l : List (κ × α)) (q : κ) : aget l q = none ↔ q ∉ l.map (·.1) := by
  induction l with
  | nil => simp [aget]
  | cons p l ih =>
    simp only [aget, List.map_cons, List.mem_cons, not_or]
    split
    · rename_i hp; simp [hp]
    · rename_i hp; rw [ih]; exact ⟨fun h => ⟨fun e => hp e.symm, h⟩, fun h => h.2⟩
theorem aset_nodup {l : List (κ × α)} (h : (l.map (·.1)).Nodup) (q : κ) (x : α) : ((aset l q x).map (·.1)).Nodup := by
  cases hg : aget l q with
  | some a => rw [aset_keys l q x (by rw [hg]; rfl)]; exact h
  | none =>
    rw [aset_keys_new l q x hg]
    rw [List.nodup_append]
    refine ⟨h, by simp, fun a ha b hb => ?_⟩
    simp at hb
    subst hb
    exact fun e => (aget_none l b).1 hg (e ▸ ha)
theorem aget_mem {l : List (κ × α)} {q : κ} {a : α} (h : aget l q = some a) : (q, a) ∈ l := by
  induction l with
  | nil => cases h
  | cons p l ih =>
    simp only [aget] at h
    split at h
    · rename_i hp; cases h; subst hp; simp
    · exact List.mem_cons_of_mem _ (ih h)
theorem adel_sub {l : List (κ × α)} {q : κ} {p : κ × α} (h : p ∈ adel l q) : p ∈ l := by
  induction l with
  | nil => cases h
  | cons x l ih =>
    simp only [adel] at h
    split at h
    · exact List.mem_cons_of_mem _ h
    · rcases List.mem_cons.1 h with rfl | h
      · simp
      · exact List.mem_cons_of_mem _ (ih h)
theorem adel_keys (l : List (κ × α)) (q : κ) : ((adel l q).map (·.1)).Sublist (l.map (·.1)) := by
  induction l with
  | nil => exact List.Sublist.refl _
  | cons x l ih =>
    simp only [adel]
    split
    · exact List.sublist_cons_self _ _
    · exact ih.cons_cons _
theorem adel_nodup {l : List (κ × α)} (h : (l.map (·.1)).Nodup) (q : κ) : ((adel l q).map (·.1)).Nodup := List.Sublist.nodup (adel_keys l q) h
theorem aset_mem {l : List (κ × α)} {q : κ} {x : α} {p : κ × α} (h : p ∈ aset l q x) : p = (q, x) ∨ p ∈ l := by
  induction l with
  | nil => simp [aset] at h; exact .inl h
  | cons y l ih =>
    simp only [aset] at h
    split at h
    · rcases List.mem_cons.1 h with h | h
      · exact .inl h
      · exact .inr (List.mem_cons_of_mem _ h)
    · rcases List.mem_cons.1 h with h | h
      · exact .inr (by simp [h])
      · rcases ih h with h | h
        · exact .inl h
        · exact .inr (List.mem_cons_of_mem _ h)
theorem aget_aset (l : List (κ × α)) (q : κ) (x : α) (r : κ) : aget (aset l q x) r = if q = r then some x else aget l r := by
  induction l with
  | nil => simp [aset, aget]
  | cons y l ih =>
    simp only [aset]
    split
    · rename_i hy
      simp only [aget]
      split
      · rfl
      · rename_i hq; rw [if_neg (fun e => hq (hy ▸ e))]
    · rename_i hy
      simp only [aget]
      split
      · rename_i hr; rw [if_neg (fun e => hy (hr.trans e.symm))]
      · exact ih
theorem aget_adel {l : List (κ × α)} (hn : (l.map (·.1)).Nodup) (q r : κ) : aget (adel l q) r = if q = r then none else aget l r := by
  induction l with
  | nil => simp [adel, aget]
  | cons y l ih =>
    simp only [List.map_cons, List.nodup_cons] at hn
    simp only [adel]
    split
    · rename_i hy
      split
      · rename_i hq; rw [aget_none, ← hq, ← hy]; exact hn.1
      · rename_i hq; simp only [aget]; rw [if_neg (fun e => hq (hy.symm.trans e))]
    · rename_i hy
      simp only [aget]
      split
      · rename_i hr; rw [if_neg (fun e => hy (hr.trans e.symm))]
      · exact ih hn.2
theorem adel_length {l : List (κ × α)} {q : κ} : (adel l q).length ≤ l.length := by
  have := (adel_keys l q).length_le
  simpa using this
theorem aset_length {l : List (κ × α)} {q : κ} {x : α} : (aset l q x).length ≤ l.length + 1 := by
  induction l with
  | nil => simp [aset]
  | cons y l ih =>
    simp only [aset]
    split
    · simp
    · simp only [List.length_cons]; omega
end

/-! ### a map of the heap, and a list of pairs -/
section
variable {κ α : Type} [DecidableEq κ] {kv : κ → Value} {R R' : κ → α → Value → Prop} {kk : KeyK}

def MapOk (kv : κ → Value) (R : κ → α → Value → Prop) : List (Value × Value × Nat) → List (κ × α) → Prop
  | [], [] => True
  | e :: es, p :: l => e.1 = kv p.1 ∧ R p.1 p.2 e.2.1 ∧ MapOk kv R es l
  | _, _ => False

/-- keys are held against each other by what they are -/
def KeyOf (kk : KeyK) (kv : κ → Value) : Prop := ∀ a b, sameV kk (kv a) (kv b) = some (decide (a = b))

theorem key_str : KeyOf .str Value.string := fun a b => by
  simp only [sameV]
  rw [bytes_beq]
theorem key_int : KeyOf .int (Value.int .i64) := fun a b => by
  simp only [sameV, if_true]
  rfl

theorem MapOk.length : ∀ {es : List (Value × Value × Nat)} {l : List (κ × α)}, MapOk kv R es l → es.length = l.length
  | [], [], _ => rfl
  | e :: es, p :: l, h => by simp [MapOk.length h.2.2]
  | [], p :: l, h => h.elim
  | e :: es, [], h => h.elim

theorem MapOk.mono : ∀ {es : List (Value × Value × Nat)} {l : List (κ × α)}, MapOk kv R es l → (∀ k a v, (k, a) ∈ l → R k a v → R' k a v) → MapOk kv R' es l
  | [], [], _, _ => trivial
  | e :: es, p :: l, h, hr => ⟨h.1, hr _ _ _ (by simp) h.2.1, MapOk.mono h.2.2 fun k a v hm => hr k a v (List.mem_cons_of_mem _ hm)⟩
  | [], p :: l, h, _ => h.elim
  | e :: es, [], h, _ => h.elim

theorem MapOk.find (hk : KeyOf kk kv) : ∀ {es : List (Value × Value × Nat)} {l : List (κ × α)}, MapOk kv R es l → ∀ (q : κ) (i : Nat),
    (findV kk (kv q) es i = some none ∧ aget l q = none) ∨ (∃ j v a, findV kk (kv q) es i = some (some (i + j, v)) ∧ aget l q = some a ∧ R q a v)
  | [], [], _, q, i => .inl ⟨rfl, rfl⟩
  | e :: es, p :: l, h, q, i => by
    simp only [findV, h.1, hk q p.1, aget]
    by_cases hp : p.1 = q
    · rw [if_pos hp, decide_eq_true hp.symm]
      exact .inr ⟨0, e.2.1, p.2, rfl, rfl, hp ▸ h.2.1⟩
    · rw [if_neg hp, decide_eq_false (fun e => hp e.symm)]
      rcases MapOk.find hk h.2.2 q (i + 1) with h' | ⟨j, v, a, h1, h2, h3⟩
      · exact .inl h'
      · exact .inr ⟨j + 1, v, a, by show findV kk (kv q) es (i + 1) = _; rw [h1, show i + 1 + j = i + (j + 1) by omega], h2, h3⟩
  | [], p :: l, h, _, _ => h.elim
  | e :: es, [], h, _, _ => h.elim

/-- an entry set, or its value the same pointer -/
theorem MapOk.modify (hk : KeyOf kk kv) {q : κ} {a' : α} {v' : Value} (hq : R' q a' v') : ∀ {es : List (Value × Value × Nat)} {l : List (κ × α)} {i j : Nat} {v : Value}, MapOk kv R es l → (l.map (·.1)).Nodup →
    findV kk (kv q) es i = some (some (i + j, v)) → (∀ k a v, k ≠ q → (k, a) ∈ l → R k a v → R' k a v) → MapOk kv R' (es.modify j fun e => (kv q, v', e.2.2)) (aset l q a')
  | [], [], i, j, v, _, _, hf, _ => by cases hf
  | e :: es, p :: l, i, j, v, h, hn, hf, hr => by
    simp only [List.map_cons, List.nodup_cons] at hn
    simp only [findV, h.1, hk q p.1] at hf
    simp only [aset]
    by_cases hp : p.1 = q
    · rw [decide_eq_true hp.symm] at hf
      simp only [Option.some.injEq, Prod.mk.injEq] at hf
      have : j = 0 := by omega
      subst this
      rw [if_pos hp]
      simp only [List.modify_zero_cons]
      exact ⟨rfl, hq, MapOk.mono h.2.2 fun k a v hm hrr => hr k a v (fun e => hn.1 (by rw [hp, ← e]; exact List.mem_map_of_mem (f := (·.1)) hm)) (List.mem_cons_of_mem _ hm) hrr⟩
    · rw [decide_eq_false (fun e => hp e.symm)] at hf
      rw [if_neg hp]
      have hj : ∃ j', j = j' + 1 := by
        rcases MapOk.find hk h.2.2 q (i + 1) with ⟨h1, _⟩ | ⟨j', v1, a1, h1, _, _⟩
        · rw [h1] at hf; cases hf
        · rw [h1] at hf
          simp only [Option.some.injEq, Prod.mk.injEq] at hf
          exact ⟨j', by omega⟩
      obtain ⟨j', rfl⟩ := hj
      simp only [List.modify_succ_cons]
      exact ⟨h.1, hr _ _ _ hp (by simp) h.2.1, MapOk.modify hk hq (i := i + 1) (v := v) h.2.2 hn.2 (by have hf' : findV kk (kv q) es (i + 1) = some (some (i + (j' + 1), v)) := hf; rw [hf', show i + 1 + j' = i + (j' + 1) by omega]) fun k a v hne hm => hr k a v hne (List.mem_cons_of_mem _ hm)⟩
  | [], p :: l, _, _, _, h, _, _, _ => h.elim
  | e :: es, [], _, _, _, h, _, _, _ => h.elim

/-- the heap's map as it was, the pair's other half another -/
theorem MapOk.touch (hk : KeyOf kk kv) {q : κ} {a' : α} {v : Value} (hq : R' q a' v) : ∀ {es : List (Value × Value × Nat)} {l : List (κ × α)} {i j : Nat}, MapOk kv R es l → (l.map (·.1)).Nodup →
    findV kk (kv q) es i = some (some (i + j, v)) → (∀ k a v, k ≠ q → (k, a) ∈ l → R k a v → R' k a v) → MapOk kv R' es (aset l q a')
  | [], [], i, j, _, _, hf, _ => by cases hf
  | e :: es, p :: l, i, j, h, hn, hf, hr => by
    simp only [List.map_cons, List.nodup_cons] at hn
    simp only [findV, h.1, hk q p.1] at hf
    simp only [aset]
    by_cases hp : p.1 = q
    · rw [decide_eq_true hp.symm] at hf
      simp only [Option.some.injEq, Prod.mk.injEq] at hf
      rw [if_pos hp]
      exact ⟨by rw [← hp]; exact h.1, by show R' q a' e.2.1; rw [hf.2]; exact hq, MapOk.mono h.2.2 fun k a v hm hrr => hr k a v (fun e => hn.1 (by rw [hp, ← e]; exact List.mem_map_of_mem (f := (·.1)) hm)) (List.mem_cons_of_mem _ hm) hrr⟩
    · rw [decide_eq_false (fun e => hp e.symm)] at hf
      rw [if_neg hp]
      have hj : ∃ j', j = j' + 1 := by
        rcases MapOk.find hk h.2.2 q (i + 1) with ⟨h1, _⟩ | ⟨j', v1, a1, h1, _, _⟩
        · rw [h1] at hf; cases hf
        · rw [h1] at hf
          simp only [Option.some.injEq, Prod.mk.injEq] at hf
          exact ⟨j', by omega⟩
      obtain ⟨j', rfl⟩ := hj
      exact ⟨h.1, hr _ _ _ hp (by simp) h.2.1, MapOk.touch hk hq (i := i + 1) (j := j') h.2.2 hn.2 (by have hf' : findV kk (kv q) es (i + 1) = some (some (i + (j' + 1), v)) := hf; rw [hf', show i + 1 + j' = i + (j' + 1) by omega]) fun k a v hne hm => hr k a v hne (List.mem_cons_of_mem _ hm)⟩
  | [], p :: l, _, _, h, _, _, _ => h.elim
  | e :: es, [], _, _, h, _, _, _ => h.elim

theorem MapOk.snoc {q : κ} {a' : α} {v' : Value} {c : Nat} (hq : R' q a' v') : ∀ {es : List (Value × Value × Nat)} {l : List (κ × α)}, MapOk kv R es l → aget l q = none →
    (∀ k a v, k ≠ q → (k, a) ∈ l → R k a v → R' k a v) → MapOk kv R' (es ++ [(kv q, v', c)]) (aset l q a')
  | [], [], _, _, _ => ⟨rfl, hq, trivial⟩
  | e :: es, p :: l, h, hg, hr => by
    simp only [aget] at hg
    split at hg
    · cases hg
    · rename_i hp
      simp only [aset, if_neg hp, List.cons_append]
      exact ⟨h.1, hr _ _ _ hp (by simp) h.2.1, MapOk.snoc hq h.2.2 hg fun k a v hne hm => hr k a v hne (List.mem_cons_of_mem _ hm)⟩
  | [], p :: l, h, _, _ => h.elim
  | e :: es, [], h, _, _ => h.elim

theorem MapOk.erase (hk : KeyOf kk kv) {q : κ} : ∀ {es : List (Value × Value × Nat)} {l : List (κ × α)} {i j : Nat} {v : Value}, MapOk kv R es l → (l.map (·.1)).Nodup →
    findV kk (kv q) es i = some (some (i + j, v)) → (∀ k a v, k ≠ q → (k, a) ∈ l → R k a v → R' k a v) → MapOk kv R' (es.eraseIdx j) (adel l q)
  | [], [], i, j, v, _, _, hf, _ => by cases hf
  | e :: es, p :: l, i, j, v, h, hn, hf, hr => by
    simp only [List.map_cons, List.nodup_cons] at hn
    simp only [findV, h.1, hk q p.1] at hf
    simp only [adel]
    by_cases hp : p.1 = q
    · rw [decide_eq_true hp.symm] at hf
      simp only [Option.some.injEq, Prod.mk.injEq] at hf
      have : j = 0 := by omega
      subst this
      rw [if_pos hp]
      simp only [List.eraseIdx_cons_zero]
      exact MapOk.mono h.2.2 fun k a v hm hrr => hr k a v (fun e => hn.1 (by rw [hp, ← e]; exact List.mem_map_of_mem (f := (·.1)) hm)) (List.mem_cons_of_mem _ hm) hrr
    · rw [decide_eq_false (fun e => hp e.symm)] at hf
      rw [if_neg hp]
      have hj : ∃ j', j = j' + 1 := by
        rcases MapOk.find hk h.2.2 q (i + 1) with ⟨h1, _⟩ | ⟨j', v1, a1, h1, _, _⟩
        · rw [h1] at hf; cases hf
        · rw [h1] at hf
          simp only [Option.some.injEq, Prod.mk.injEq] at hf
          exact ⟨j', by omega⟩
      obtain ⟨j', rfl⟩ := hj
      simp only [List.eraseIdx_cons_succ]
      exact ⟨h.1, hr _ _ _ hp (by simp) h.2.1, MapOk.erase hk (i := i + 1) (v := v) h.2.2 hn.2 (by have hf' : findV kk (kv q) es (i + 1) = some (some (i + (j' + 1), v)) := hf; rw [hf', show i + 1 + j' = i + (j' + 1) by omega]) fun k a v hne hm => hr k a v hne (List.mem_cons_of_mem _ hm)⟩
  | [], p :: l, _, _, _, h, _, _, _ => h.elim
  | e :: es, [], _, _, _, h, _, _, _ => h.elim

theorem MapOk.each : ∀ {es : List (Value × Value × Nat)} {l : List (κ × α)}, MapOk kv R es l → ∀ e ∈ es, ∃ k a, (k, a) ∈ l ∧ e.1 = kv k ∧ R k a e.2.1
  | [], [], _, e, he => by cases he
  | x :: es, p :: l, h, e, he => by
    rcases List.mem_cons.1 he with rfl | he
    · exact ⟨p.1, p.2, by simp, h.1, h.2.1⟩
    · obtain ⟨k, a, h1, h2⟩ := MapOk.each h.2.2 e he
      exact ⟨k, a, List.mem_cons_of_mem _ h1, h2⟩
  | [], p :: l, h, _, _ => h.elim
  | e :: es, [], h, _, _ => h.elim

/-- stamps: no two the same, each below the clock -/
def Stamps (es : List (Value × Value × Nat)) (c : Nat) : Prop := (es.map (·.2.2)).Nodup ∧ ∀ e ∈ es, e.2.2 < c

theorem Stamps.nil (c : Nat) : Stamps [] c := ⟨List.nodup_nil, fun e h => by cases h⟩
theorem Stamps.snoc {es : List (Value × Value × Nat)} {c : Nat} (h : Stamps es c) (k v : Value) : Stamps (es ++ [(k, v, c)]) (c + 1) := by
  refine ⟨?_, fun e he => ?_⟩
  · rw [List.map_append, List.nodup_append]
    refine ⟨h.1, by simp, fun a ha b hb => ?_⟩
    simp at hb
    obtain ⟨e, he, rfl⟩ := List.mem_map.1 ha
    have := h.2 e he
    omega
  · rcases List.mem_append.1 he with he | he
    · have := h.2 e he; omega
    · simp at he; subst he; show c < c + 1; omega
theorem Stamps.modify {es : List (Value × Value × Nat)} {c : Nat} (h : Stamps es c) (j : Nat) (k v : Value) : Stamps (es.modify j fun e => (k, v, e.2.2)) c := by
  have hm : ∀ (es : List (Value × Value × Nat)) (j : Nat), (es.modify j fun e => (k, v, e.2.2)).map (·.2.2) = es.map (·.2.2) := by
    intro es
    induction es with
    | nil => intro j; cases j <;> rfl
    | cons e es ih => intro j; cases j with
      | zero => rfl
      | succ j => simp only [List.modify_succ_cons, List.map_cons, ih]
  refine ⟨by rw [hm]; exact h.1, fun e he => ?_⟩
  have : e.2.2 ∈ (es.modify j fun e => (k, v, e.2.2)).map (·.2.2) := List.mem_map_of_mem (f := (·.2.2)) he
  rw [hm] at this
  obtain ⟨e', h1, h2⟩ := List.mem_map.1 this
  rw [← h2]
  exact h.2 e' h1
theorem Stamps.erase {es : List (Value × Value × Nat)} {c : Nat} (h : Stamps es c) (j : Nat) : Stamps (es.eraseIdx j) c := by
  refine ⟨?_, fun e he => h.2 e (List.mem_of_mem_eraseIdx he)⟩
  exact List.Sublist.nodup ((List.eraseIdx_sublist es j).map _) h.1
end

/-! ### what streams are -/
/-- what is behind a handle -/
inductive HM where
  | rd (path : ByteArray) (b : List UInt8)
  | wr (path : ByteArray) (b : List UInt8)
  | nl (read : Bool)
  | pe (name : ByteArray) (read : Bool)

structure PM where
  row : List UInt8
  wrote : Bool
  writing : Bool
  read : Bool
  reading : Bool

structure SM where
  files : List (ByteArray × List UInt8)
  pipes : List (ByteArray × PM)
  asg : List (ByteArray × ByteArray)
  hnd : List (Int × HM)
  last : Int

/-- whose a block is -/
inductive Own where
  | no
  | core
  | h (id : Int)
  | hv (id : Int)
  | f (nm : ByteArray)
  | p (nm : ByteArray)
  | pv (nm : ByteArray)

/-- a slice that is one's own -/
def OwV (own : Nat → Own) (o : Own) (v : Value) : Prop := ow v = 0 ∨ own (ow v - 1) = o

def FileR (own : Nat → Own) (st : St) (nm : ByteArray) (bs : List UInt8) (v : Value) : Prop := Gro st v bs ∧ OwV own (.f nm) v ∧ bs.length ≤ 20000

def PipeR (own : Nat → Own) (pb : ByteArray → Nat) (st : St) (nm : ByteArray) (pm : PM) (v : Value) : Prop :=
  ∃ u, v = .pointer (some ⟨pb nm, 0, none⟩) ∧ own (pb nm) = .p nm ∧ st.get (pb nm) = some (pipeRow u pm.wrote pm.writing pm.read pm.reading) ∧ Gro st u pm.row ∧ OwV own (.pv nm) u ∧ pm.row.length ≤ 64

def AsgR (k to : ByteArray) (v : Value) : Prop := v = .string to ∧ to.size ≤ 100

def HndR (own : Nat → Own) (pb : ByteArray → Nat) (st : St) (id : Int) (h : HM) (v : Value) : Prop :=
  match h with
  | .rd path bs => ∃ e u, v = .iface 117 (.pointer (some ⟨e, 0, none⟩)) ∧ own e = .h id ∧ st.get e = some (ramRow path u) ∧ Gro st u bs ∧ OwV own (.hv id) u ∧ bs.length ≤ 20000
  | .wr path bs => ∃ e u, v = .iface 76 (.pointer (some ⟨e, 0, none⟩)) ∧ own e = .h id ∧ st.get e = some (ramRow path u) ∧ Gro st u bs ∧ OwV own (.hv id) u ∧ bs.length ≤ 20000
  | .nl r => v = .iface 84 (.agg #[.bool r])
  | .pe nm r => ∃ e, v = .iface 86 (.pointer (some ⟨e, 0, none⟩)) ∧ own e = .h id ∧ st.get e = some (endRow nm (pb nm) r)

/-- what holds of streams in any case -/
structure SMOk (M : SM) : Prop where
  nf : (M.files.map (·.1)).Nodup
  np : (M.pipes.map (·.1)).Nodup
  na : (M.asg.map (·.1)).Nodup
  nh : (M.hnd.map (·.1)).Nodup
  ids : ∀ id h, (id, h) ∈ M.hnd → 1 ≤ id ∧ id ≤ M.last
  l0 : 0 ≤ M.last
  pes : ∀ id nm r, (id, HM.pe nm r) ∈ M.hnd → ∃ pm, aget M.pipes nm = some pm ∧ (bif r then pm.reading else pm.writing) = true
  one : ∀ id id' nm r, (id, HM.pe nm r) ∈ M.hnd → (id', HM.pe nm r) ∈ M.hnd → id = id'
  was : ∀ nm pm, aget M.pipes nm = some pm → (pm.writing = true → pm.wrote = true) ∧ (pm.reading = true → pm.read = true)

/-- a heap holds streams -/
structure Rep (own : Nat → Own) (pb : ByteArray → Nat) (st : St) (N : Nat) (M : SM) : Prop where
  n0 : 0 < N
  mx : hasMax st = true
  str : StrAt st N (N + 1) (N + 2) (N + 3) (N + 4) M.last
  fil : ∃ es c, st.get (N + 1) = some (.map es c) ∧ Stamps es c ∧ MapOk Value.string (FileR own st) es M.files
  pip : ∃ es c, st.get (N + 2) = some (.map es c) ∧ Stamps es c ∧ MapOk Value.string (PipeR own pb st) es M.pipes
  asg : ∃ es c, st.get (N + 3) = some (.map es c) ∧ Stamps es c ∧ MapOk Value.string AsgR es M.asg
  hnd : ∃ es c, st.get (N + 4) = some (.map es c) ∧ Stamps es c ∧ MapOk (Value.int .i64) (HndR own pb st) es M.hnd
  core : ∀ i, N ≤ i → i < N + 5 → own i = .core
  fresh : ∀ i, own i ≠ .no → i < st.next
  zero : own 0 = .no
  ok : SMOk M

/-- what is nobody's stays so, and as it is -/
structure Fr (own own' : Nat → Own) (st st' : St) : Prop where
  nx : st.next ≤ st'.next
  old : ∀ i, i < st.next → own i = .no → st'.get i = st.get i
  new : ∀ i, i < st.next → own i = .no → own' i = .no

theorem Fr.refl (own : Nat → Own) (st : St) : Fr own own st st := ⟨Nat.le_refl _, fun _ _ _ => rfl, fun _ _ h => h⟩
theorem Fr.trans {o1 o2 o3 : Nat → Own} {s1 s2 s3 : St} (h : Fr o1 o2 s1 s2) (k : Fr o2 o3 s2 s3) : Fr o1 o3 s1 s3 where
  nx := Nat.le_trans h.nx k.nx
  old := fun i hi ho => (k.old i (Nat.lt_of_lt_of_le hi h.nx) (h.new i hi ho)).trans (h.old i hi ho)
  new := fun i hi ho => k.new i (Nat.lt_of_lt_of_le hi h.nx) (h.new i hi ho)

/-- a block (its number and one; 0: none) becomes somebody's -/
def lab (own : Nat → Own) (b : Nat) (o : Own) : Nat → Own := fun i => if i + 1 = b then o else own i

theorem OwV.keep {own own' : Nat → Own} {o : Own} {v : Value} (h : OwV own o v) (ho : ∀ i, own i = o → own' i = o) : OwV own' o v := by
  rcases h with h | h
  · exact .inl h
  · exact .inr (ho _ h)
theorem OwV.at (own : Nat → Own) (o : Own) (v : Value) : OwV (lab own (ow v) o) o v := by
  by_cases h : ow v = 0
  · exact .inl h
  · right
    unfold lab
    rw [if_pos (by omega)]
theorem OwV.le {own : Nat → Own} {o : Own} {v : Value} {st : St} (h : OwV own o v) (hf : ∀ i, own i ≠ .no → i < st.next) (ho : o ≠ .no) : ow v ≤ st.next := by
  rcases h with h | h
  · omega
  · have := hf (ow v - 1) (by rw [h]; exact ho)
    omega
theorem OwV.ne {own : Nat → Own} {o : Own} {v : Value} {e : Nat} (h : OwV own o v) (he : own e ≠ o) : ow v ≠ e + 1 := by
  intro hh
  rcases h with h | h
  · omega
  · rw [hh] at h; exact he h
theorem OwV.is {own : Nat → Own} {o : Own} {v : Value} {i : Nat} (h : OwV own o v) (hi : i + 1 = ow v) : own i = o := by
  rcases h with h | h
  · omega
  · rw [← hi] at h; exact h

section
variable {own own' : Nat → Own} {pb pb' : ByteArray → Nat} {st st' : St}
theorem FileR.keep {nm : ByteArray} {bs : List UInt8} {v : Value} (h : FileR own st nm bs v) (hs : ∀ i, own i = .f nm → st'.get i = st.get i) (ho : ∀ i, own i = .f nm → own' i = .f nm) : FileR own' st' nm bs v :=
  ⟨h.1.keep fun i hi => hs i (h.2.1.is hi), h.2.1.keep ho, h.2.2⟩
theorem PipeR.keep {nm : ByteArray} {pm : PM} {v : Value} (h : PipeR own pb st nm pm v) (hs : ∀ i, own i = .p nm ∨ own i = .pv nm → st'.get i = st.get i) (h1 : ∀ i, own i = .p nm → own' i = .p nm) (h2 : ∀ i, own i = .pv nm → own' i = .pv nm) (hp : pb' nm = pb nm) : PipeR own' pb' st' nm pm v := by
  obtain ⟨u, k1, k2, k3, k4, k5, k6⟩ := h
  exact ⟨u, by rw [hp]; exact k1, by rw [hp]; exact h1 _ k2, by rw [hp, hs _ (.inl k2)]; exact k3, k4.keep fun i hi => hs i (.inr (k5.is hi)), k5.keep h2, k6⟩
theorem HndR.keep {id : Int} {h : HM} {v : Value} (hh : HndR own pb st id h v) (hs : ∀ i, own i = .h id ∨ own i = .hv id → st'.get i = st.get i) (h1 : ∀ i, own i = .h id → own' i = .h id) (h2 : ∀ i, own i = .hv id → own' i = .hv id) (hp : ∀ nm r, h = .pe nm r → pb' nm = pb nm) : HndR own' pb' st' id h v := by
  cases h with
  | rd path bs => obtain ⟨e, u, k1, k2, k3, k4, k5, k6⟩ := hh; exact ⟨e, u, k1, h1 _ k2, by rw [hs _ (.inl k2)]; exact k3, k4.keep fun i hi => hs i (.inr (k5.is hi)), k5.keep h2, k6⟩
  | wr path bs => obtain ⟨e, u, k1, k2, k3, k4, k5, k6⟩ := hh; exact ⟨e, u, k1, h1 _ k2, by rw [hs _ (.inl k2)]; exact k3, k4.keep fun i hi => hs i (.inr (k5.is hi)), k5.keep h2, k6⟩
  | nl r => exact hh
  | pe nm r => obtain ⟨e, k1, k2, k3⟩ := hh; exact ⟨e, k1, h1 _ k2, by rw [hs _ (.inl k2), hp nm r rfl]; exact k3⟩
end
end Go.Proofs.YtocofoiijfofaaaGreatDoor
