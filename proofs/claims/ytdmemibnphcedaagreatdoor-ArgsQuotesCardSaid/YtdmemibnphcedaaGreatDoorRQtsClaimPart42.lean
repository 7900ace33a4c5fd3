/-
  A template that is written again has the same items, in plain words. (No program in sight.)
-/
import Derived.Test.YtdmemibnphcedaaGreatDoorRQtsClaimPart22
set_option linter.unusedSimpArgs false
set_option linter.unusedVariables false
set_option maxRecDepth 10000
namespace Go.Proofs.YtdmemibnphcedaaGreatDoor
open Go.Am

/-- what is joined by c is cut at c into the same, if none of it has c -/
theorem spl_join (c : UInt8) : ∀ (xs : List (List UInt8)), xs ≠ [] → (∀ x ∈ xs, c ∉ x) → spl c (Lib.join xs [c]) = xs
  | [], h, _ => (h rfl).elim
  | [x], _, h => by rw [Lib.join_one]; exact spl_none (h x (by simp))
  | x :: y :: r, _, h => by
    have e : Lib.join (x :: y :: r) [c] = x ++ c :: Lib.join (y :: r) [c] := by
      rw [Lib.join_cons, Lib.join_cons]
      simp [Lib.joinTail]
    rw [e, spl_hit _ (h x (by simp)), spl_join c (y :: r) (by simp) (fun z hz => h z (by simp [hz]))]

theorem nm_no {c : UInt8} (hc : c.toNat < 97 ∨ 122 < c.toNat) {s : ByteArray} (h : isNm s = true) : c ∉ s.data.toList := fun hm => by
  unfold isNm at h
  simp only [Bool.and_eq_true, List.all_eq_true, decide_eq_true_eq] at h
  have := h.2 c hm
  omega
theorem nm_ne {s : ByteArray} (h : isNm s = true) : s.data.toList ≠ [] := fun hm => by
  unfold isNm at h
  simp only [Bool.and_eq_true, decide_eq_true_eq] at h
  have := size_list s
  rw [hm] at this
  simp only [List.length_nil] at this
  omega
theorem join_no {c d : UInt8} (hcd : c ≠ d) : ∀ (xs : List (List UInt8)), (∀ x ∈ xs, c ∉ x) → c ∉ Lib.join xs [d]
  | [], _ => by rw [Lib.join_nil]; simp
  | [x], h => by rw [Lib.join_one]; exact h x (by simp)
  | x :: y :: r, h => by
    have e : Lib.join (x :: y :: r) [d] = x ++ d :: Lib.join (y :: r) [d] := by
      rw [Lib.join_cons, Lib.join_cons]
      simp [Lib.joinTail]
    rw [e]
    simp only [List.mem_append, List.mem_cons, not_or]
    exact ⟨h x (by simp), hcd, join_no hcd (y :: r) (fun z hz => h z (by simp [hz]))⟩

/-- the marks as pieces -/
def mkPs (x : Mk) : List (List UInt8) :=
  (bif x.a then [[97]] else []) ++ (bif x.k then [[107]] else []) ++ (bif x.s then [[115]] else []) ++ (bif x.n then [[110]] else []) ++ (bif x.m then [[109]] else []) ++ (bif x.f then [[102]] else [])
theorem mkPs_text (x : Mk) : mkText x = Lib.joinTail [47] (mkPs x) := by
  obtain ⟨a, k, s, n, m, f⟩ := x
  cases a <;> cases k <;> cases s <;> cases n <;> cases m <;> cases f <;> rfl
theorem mkPs_marks (x : Mk) : marksA ((mkPs x).map bs) Mk.none = some x := by
  obtain ⟨a, k, s, n, m, f⟩ := x
  cases a <;> cases k <;> cases s <;> cases n <;> cases m <;> cases f <;> rfl
theorem mkPs_no (x : Mk) : (∀ p ∈ mkPs x, (47 : UInt8) ∉ p) ∧ (44 : UInt8) ∉ mkText x := by
  obtain ⟨a, k, s, n, m, f⟩ := x
  cases a <;> cases k <;> cases s <;> cases n <;> cases m <;> cases f <;> decide

/-- a good item -/
def ItGood (x : IM) : Prop := x.names ≠ [] ∧ x.names.all isNm = true ∧ x.mks.fit = true
theorem itemA_good {s : ByteArray} {x : IM} (h : itemA s = some x) : ItGood x := by
  unfold itemA at h
  split at h
  · rename_i hd t _
    split at h
    · split at h
      · rename_i hc
        rw [Bool.and_eq_true] at hc
        cases h
        exact ⟨pieces_ne _ _, hc.1, hc.2⟩
      · cases h
    · cases h
  · cases h
theorem itText_join (x : IM) : itText x = Lib.join (Lib.join (x.names.map (·.data.toList)) [61] :: mkPs x.mks) [47] := by
  rw [itText, mkPs_text, Lib.join_cons]
theorem itemA_again {x : IM} (h : ItGood x) : itemA (bs (itText x)) = some x := by
  obtain ⟨h1, h2, h3⟩ := h
  rw [List.all_eq_true] at h2
  have hn : ∀ c : UInt8, (c.toNat < 97 ∨ 122 < c.toNat) → ∀ p ∈ x.names.map (·.data.toList), c ∉ p := fun c hc p hp => by
    obtain ⟨q, hq, rfl⟩ := List.mem_map.1 hp
    exact nm_no hc (h2 q hq)
  have hp : pieces 47 (bs (itText x)) = bs (Lib.join (x.names.map (·.data.toList)) [61]) :: (mkPs x.mks).map bs := by
    unfold pieces
    rw [bs_list, itText_join, spl_join 47 _ (by simp) (fun p hp => ?_)]
    · rfl
    · rcases List.mem_cons.1 hp with rfl | hp
      · exact join_no (by decide) _ (hn 47 (by decide))
      · exact (mkPs_no x.mks).1 p hp
  have hq : pieces 61 (bs (Lib.join (x.names.map (·.data.toList)) [61])) = x.names := by
    unfold pieces
    rw [bs_list, spl_join 61 _ (by simpa using h1) (hn 61 (by decide)), List.map_map]
    conv => rhs; rw [← List.map_id x.names]
    exact List.map_congr_left fun q _ => bs_of q
  unfold itemA
  rw [hp]
  simp only [mkPs_marks, hq]
  rw [if_pos (by rw [Bool.and_eq_true, List.all_eq_true]; exact ⟨h2, h3⟩)]
theorem itText_no {x : IM} (h : ItGood x) : (44 : UInt8) ∉ itText x := by
  rw [itText]
  simp only [List.mem_append, not_or]
  refine ⟨join_no (by decide) _ (fun p hp => ?_), (mkPs_no x.mks).2⟩
  obtain ⟨q, hq, rfl⟩ := List.mem_map.1 hp
  have := h.2.1
  rw [List.all_eq_true] at this
  exact nm_no (by decide) (this q hq)
theorem itText_ne {x : IM} (h : ItGood x) : itText x ≠ [] := by
  rw [itText]
  obtain ⟨n, r, hx⟩ := List.exists_cons_of_ne_nil h.1
  rw [hx, List.map_cons, Lib.join_cons]
  have := h.2.1
  rw [hx, List.all_cons, Bool.and_eq_true] at this
  have := nm_ne this.1
  intro e
  simp only [List.append_eq_nil_iff] at e
  exact this e.1.1
theorem itemsA_good : ∀ {ps : List ByteArray} {l : List IM}, itemsA ps = some l → ps.length = l.length ∧ ∀ x ∈ l, ItGood x
  | [], l, h => by simp only [itemsA, Option.some.injEq] at h; subst h; exact ⟨rfl, fun x hx => by cases hx⟩
  | p :: r, l, h => by
    simp only [itemsA] at h
    split at h
    · rename_i x hx
      simp only [Option.map_eq_some_iff] at h
      obtain ⟨l', h1, rfl⟩ := h
      obtain ⟨k1, k2⟩ := itemsA_good h1
      refine ⟨by simp [k1], fun y hy => ?_⟩
      rcases List.mem_cons.1 hy with rfl | hy
      · exact itemA_good hx
      · exact k2 y hy
    · cases h
theorem itemsA_again : ∀ {l : List IM}, (∀ x ∈ l, ItGood x) → itemsA (l.map fun x => bs (itText x)) = some l
  | [], _ => rfl
  | x :: l, h => by
    rw [List.map_cons]
    simp only [itemsA, itemA_again (h x (by simp)), itemsA_again (l := l) (fun y hy => h y (by simp [hy])), Option.map_some]
theorem usText_len {t : ByteArray} {l : List IM} (h : TmA t l 0) : (usText l).length ≤ 20 * (t.size + 14) := by
  obtain ⟨h1, _, h3⟩ := tm_bounds h
  have hj := join_len 44 (l.map itText)
  have : ∀ m : List IM, (∀ x ∈ m, (itText x).length ≤ t.size + 13) → ((m.map itText).map fun p => p.length + 1).sum ≤ m.length * (t.size + 14) := fun m => by
    induction m with
    | nil => intro _; simp
    | cons x m ih =>
      intro hm
      have i1 := ih fun y hy => hm y (by simp [hy])
      have i2 := hm x (by simp)
      simp only [List.map_cons, List.sum_cons, List.length_cons, Nat.add_mul] at i1 ⊢
      omega
  have h4 := this l fun x hx => by
    have := (h3 x hx).2.2
    have h6 : (mkText x.mks).length ≤ 12 := by rw [← mkUp6]; exact mkUp_len x.mks 6
    rw [itText, List.length_append]
    omega
  have h5 : l.length * (t.size + 14) ≤ 20 * (t.size + 14) := Nat.mul_le_mul_right _ h1
  exact Nat.le_trans hj (Nat.le_trans h4 h5)
/-- written again, a template has the same items -/
theorem tm_again {t : ByteArray} {l : List IM} (h : TmA t l 0) : TmA (bs (usText l)) l 0 := by
  cases h with
  | nil _ => exact .nil rfl
  | ok _ h0 h1 h2 h3 =>
    obtain ⟨k1, k2⟩ := itemsA_good h1
    have hl : l ≠ [] := fun e => by
      rw [e] at k1
      have := pieces_ne 44 t
      exact this (List.length_eq_zero_iff.1 k1)
    have hp : pieces 44 (bs (usText l)) = l.map fun x => bs (itText x) := by
      unfold pieces
      rw [bs_list, usText, spl_join 44 _ (by simpa using hl) (fun p hp => by obtain ⟨x, hx, rfl⟩ := List.mem_map.1 hp; exact itText_no (k2 x hx)), List.map_map]
      rfl
    refine .ok l (fun e => ?_) (by rw [hp]; exact itemsA_again k2) h2 h3
    have e' : usText l = [] := by rw [← bs_list (usText l), e]; rfl
    obtain ⟨x, r, rfl⟩ := List.exists_cons_of_ne_nil hl
    rw [usText, List.map_cons, Lib.join_cons] at e'
    simp only [List.append_eq_nil_iff] at e'
    exact itText_ne (k2 x (by simp)) e'.1
end Go.Proofs.YtdmemibnphcedaaGreatDoor
