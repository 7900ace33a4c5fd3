/-
  The chapter's small functions: lower, known, rest, open, Number.
-/
import Derived.Test.YtdmemibnphcedaaGreatDoorRFitJ
set_option linter.unusedSimpArgs false
set_option linter.unusedVariables false
set_option maxRecDepth 10000
set_option linter.unusedSectionVars false
namespace Go.Proofs.YtdmemibnphcedaaGreatDoor
open Go.Am
attribute [local irreducible] callO wopK ropK popK opK grpsE listE sx Runs

section
variable {st : St} {K : Value → St → Prop}

theorem kRestR (n : Nat) (s : ByteArray) (hs : s.size ≤ 90000) (p : Nat) (hp : p ≤ s.size)
    (h0 : (s.data.toList.drop p).all prn = false → K (.tuple #[.string .empty, .bool false]) st)
    (h1 : (s.data.toList.drop p).all prn = true → K (.tuple #[.string (bs (trimE (s.data.toList.drop p))), .bool (decide (trimE (s.data.toList.drop p) ≠ []))]) st) :
    callK (callO T0 orc fns 100000 (n + 1)) 63 [.string s, .int .i64 (p : Nat)] st K := by
  refine fn_runs (fn := g63) ?_ ?_ ?_
  · rfl
  · rfl
  unfold g63
  have hsz := size_list s
  simp (disch := omega) only [↓sxA, ↓wk_store, sxB, sxP, Nat.reduceLeDiff, reduceCtorEq, Nat.reduceEqDiff, Nat.reduceAdd, Int.reduceLT, Int.reduceLE, Int.reduceEq, Nat.reduceLT, Int.reduceToNat, Int.reduceAdd, Int.reduceSub, ↓reduceIte]
  refine loop_rule [0, 1, 6] (fun vs st' => st' = st ∧ ∃ j : Nat, vs = [.string s, .int .i64 (p : Nat), .int .i64 (j : Nat)] ∧ p ≤ j ∧ j ≤ s.size ∧ ((s.data.toList.drop p).take (j - p)).all prn = true) (fun vs _ => match lget vs 2 with
      | .int _ k => ((s.size : Int) - k).toNat
      | _ => 0) ?_ ?_ ?_
  · rfl
  · refine ⟨_, rfl, ⟨rfl, p, rfl, Nat.le_refl _, hp, by simp⟩, ?_⟩
    show ((s.size : Int) - (p : Int)).toNat < 100000
    omega
  · rintro vs st' ⟨rfl, j, rfl, j0, j1, j2⟩
    show sx _ _ _ _ _ [(0, _), (1, _), (6, _)] _ _ _ _
    by_cases hj : j < s.size
    · obtain ⟨c, hc, hg, hb⟩ := byte_at s j hj
      have hcd : (s.data.toList.drop p)[j - p]? = some c := by rw [List.getElem?_drop, show p + (j - p) = j by omega]; exact hc
      have bad : prn c = false → (s.data.toList.drop p).all prn = false := fun hp => by
        rw [List.all_eq_false]
        exact ⟨c, List.mem_of_getElem? hcd, by rw [hp]; decide⟩
      have good : prn c = true → ((s.data.toList.drop p).take (j + 1 - p)).all prn = true := fun hp => by
        rw [show j + 1 - p = (j - p) + 1 by omega, List.take_add_one, hcd]
        simp [List.all_append, j2, hp]
      simp (disch := omega) only [q_indexStr, Int.toNat_natCast, hg, ↓sxA, ↓wk_store, sxB, sxP, Nat.reduceLeDiff, reduceCtorEq, Nat.reduceEqDiff, Nat.reduceAdd, Int.reduceLT, Int.reduceLE, Int.reduceEq, Nat.reduceLT, Int.reduceToNat, Int.reduceAdd, Int.reduceSub, ↓reduceIte]
      refine iteI (fun c1 => ?_) (fun c1 => iteI (fun c2 => ?_) (fun c2 => ?_))
      · exact h0 (bad (by simp [prn]; omega))
      · exact h0 (bad (by simp [prn]; omega))
      · refine ⟨_, rfl, ⟨j + 1, ?_, by omega, hj, good (by simp [prn]; omega)⟩, ?_⟩
        · simp
        · show ((s.size : Int) - ((j : Int) + 1)).toNat < ((s.size : Int) - j).toNat
          omega
    · have e : (s.data.toList.drop p).take (j - p) = s.data.toList.drop p := List.take_of_length_le (by rw [List.length_drop]; omega)
      rw [e] at j2
      have h1' := h1 j2
      simp (disch := omega) only [↓sxA, ↓wk_store, sxB, sxP, Nat.reduceLeDiff, reduceCtorEq, Nat.reduceEqDiff, Nat.reduceAdd, Int.reduceLT, Int.reduceLE, Int.reduceEq, Nat.reduceLT, Int.reduceToNat, Int.reduceAdd, Int.reduceSub, ↓reduceIte]
      refine loop_rule [0, 1, 7] (fun vs s2 => s2 = st' ∧ ∃ i : Nat, vs = [.string s, .int .i64 (p : Nat), .int .i64 (i : Nat)] ∧ p ≤ i ∧ i ≤ s.size ∧ trimE (s.data.toList.drop p) = trimE ((s.data.toList.drop p).take (i - p))) (fun vs _ => match lget vs 2 with
          | .int _ k => k.toNat
          | _ => 0) ?_ ?_ ?_
      · rfl
      · refine ⟨_, rfl, ⟨rfl, s.size, rfl, hp, Nat.le_refl _, by rw [List.take_of_length_le (by rw [List.length_drop]; omega)]⟩, ?_⟩
        show ((s.size : Int)).toNat < 100000
        omega
      · rintro vs s2 ⟨rfl, i, rfl, i0, i1, i2⟩
        show sx _ _ _ _ _ [(0, _), (1, _), (7, _)] _ _ _ _
        by_cases hi : p < i
        · obtain ⟨c, hc, hg, hb⟩ := byte_at s (i - 1) (by omega)
          have hcd : (s.data.toList.drop p)[i - 1 - p]? = some c := by rw [List.getElem?_drop, show p + (i - 1 - p) = i - 1 by omega]; exact hc
          have hsp : (s.data.toList.drop p).take (i - p) = (s.data.toList.drop p).take (i - 1 - p) ++ [c] := by
            rw [show i - p = (i - 1 - p) + 1 by omega, List.take_add_one, hcd]; rfl
          have hcast : (i : Int) - 1 = ((i - 1 : Nat) : Int) := by omega
          simp (disch := omega) only [q_indexStr, hcast, Int.toNat_natCast, hg, ↓sxA, ↓wk_store, sxB, sxP, Nat.reduceLeDiff, reduceCtorEq, Nat.reduceEqDiff, Nat.reduceAdd, Int.reduceLT, Int.reduceLE, Int.reduceEq, Nat.reduceLT, Int.reduceToNat, Int.reduceAdd, Int.reduceSub, ↓reduceIte]
          refine iteI (fun c1 => ?_) (fun c1 => ?_)
          · refine ⟨_, rfl, ⟨i - 1, ?_, by omega, by omega, ?_⟩, ?_⟩
            · simp
            · rw [i2, hsp, u8_eq c1]
              simp [trimE]
            · show ((i - 1 : Nat) : Int).toNat < ((i : Nat) : Int).toNat
              omega
          · have hT : trimE (s.data.toList.drop p) = (s.data.toList.drop p).take (i - p) := by
              rw [i2, hsp]
              have : ¬ c = 32 := fun e => c1 (by rw [e]; rfl)
              simp [trimE, this]
            have hne : trimE (s.data.toList.drop p) ≠ [] := by rw [hT, hsp]; simp
            rw [decide_eq_true hne, hT, ← extract_bs] at h1'
            simp (disch := omega) only [q_slBoth, Int.toNat_natCast, ↓sxA, ↓wk_store, sxB, sxP, Nat.reduceLeDiff, reduceCtorEq, Nat.reduceEqDiff, Nat.reduceAdd, Int.reduceLT, Int.reduceLE, Int.reduceEq, Nat.reduceLT, Int.reduceToNat, Int.reduceAdd, Int.reduceSub, ↓reduceIte]
            exact h1'
        · have hpi : i = p := by omega
          subst hpi
          have hT : trimE (s.data.toList.drop i) = [] := by rw [i2]; simp [trimE]
          rw [hT] at h1'
          have e0 : s.extract i i = ByteArray.empty := by rw [extract_bs]; simp; rfl
          simp (disch := omega) only [q_slBoth, Int.toNat_natCast, e0, ↓sxA, ↓wk_store, sxB, sxP, Nat.reduceLeDiff, reduceCtorEq, Nat.reduceEqDiff, Nat.reduceAdd, Int.reduceLT, Int.reduceLE, Int.reduceEq, Nat.reduceLT, Int.reduceToNat, Int.reduceAdd, Int.reduceSub, ↓reduceIte]
          exact h1'

theorem kOpenR (n : Nat) {lo : Nat} {ok : Nat → Prop} {g : Bool} {lv av : Value} {l : List IM} {ns : List ByteArray} {cs : List Cl} (hR : ItR lo st lv l) (hG : AgR ok g st av ns cs) (hlc : cs.length = l.length) (hl : l.length < 90000) (h : K (.int .i64 (openL l cs 0 (-1))) st) :
    callK (callO T0 orc fns 100000 (n + 1)) 62 [lv, av] st K := by
  refine fn_runs (fn := g62) ?_ ?_ ?_
  · rfl
  · rfl
  unfold g62
  have la := hR.len
  simp (disch := omega) only [↓sxA, ↓wk_store, sxB, sxP, Nat.reduceLeDiff, reduceCtorEq, Nat.reduceEqDiff, Nat.reduceAdd, Int.reduceLT, Int.reduceLE, Int.reduceEq, Nat.reduceLT, Int.reduceToNat, Int.reduceAdd, Int.reduceSub, ↓reduceIte]
  refine loop_rule [0, 1, 5, 6] (fun vs s' => s' = st ∧ ∃ (j : Nat) (m : Int), vs = [lv, av, .int .i64 m, .int .i64 (j : Nat)] ∧ j ≤ l.length ∧ openL (l.drop j) (cs.drop j) j m = openL l cs 0 (-1)) (fun vs _ => match lget vs 3 with
      | .int _ k => ((l.length : Int) - k).toNat
      | _ => 0) ?_ ?_ ?_
  · rfl
  · refine ⟨_, rfl, ⟨rfl, 0, -1, rfl, Nat.zero_le _, rfl⟩, ?_⟩
    show ((l.length : Int) - 0).toNat < 100000
    omega
  · rintro vs s1 ⟨rfl, j, m, rfl, j1, hk⟩
    show sx _ _ _ _ _ [(0, _), (1, _), (5, _), (6, _)] _ _ _ _
    by_cases hj : j < l.length
    · obtain ⟨bb, nv, a1, a2, a3, a4, a5, a6, a7⟩ := hR.at hj
      obtain ⟨b, vv, o1, o2, o3, o4, o5, o6, o7, o8, o9⟩ := hG.at (j := j) (by omega)
      rw [openL_at hj (by omega)] at hk
      have rS := a3 3 (.bool l[j].mks.s) rfl
      have rK := a3 2 (.bool l[j].mks.k) rfl
      have rM := a3 5 (.bool l[j].mks.m) rfl
      have hmeas : ((l.length : Int) - ((j : Int) + 1)).toNat < ((l.length : Int) - j).toNat := by omega
      cases hs : l[j].mks.s with
      | true =>
        rw [hs] at hk rS
        simp only [Bool.true_or, if_true] at hk
        simp (disch := omega) only [↓sxA, ↓wk_store, sxB, sxP, Nat.reduceLeDiff, reduceCtorEq, Nat.reduceEqDiff, Nat.reduceAdd, Int.reduceLT, Int.reduceLE, Int.reduceEq, Nat.reduceLT, Int.reduceToNat, Int.reduceAdd, Int.reduceSub, ↓reduceIte, ↓la, ↓a1, ↓rS]
        exact ⟨_, rfl, ⟨j + 1, m, by simp, hj, hk⟩, hmeas⟩
      | false =>
        rw [hs] at hk rS
        cases hkk : l[j].mks.k with
        | true =>
          rw [hkk] at hk rK
          simp only [Bool.or_true, if_true] at hk
          simp (disch := omega) only [↓sxA, ↓wk_store, sxB, sxP, Nat.reduceLeDiff, reduceCtorEq, Nat.reduceEqDiff, Nat.reduceAdd, Int.reduceLT, Int.reduceLE, Int.reduceEq, Nat.reduceLT, Int.reduceToNat, Int.reduceAdd, Int.reduceSub, ↓reduceIte, ↓la, ↓a1, ↓rS, ↓rK]
          exact ⟨_, rfl, ⟨j + 1, m, by simp, hj, hk⟩, hmeas⟩
        | false =>
          rw [hkk] at hk rK
          simp only [Bool.or_false, Bool.false_eq_true, if_false] at hk
          cases hm : l[j].mks.m with
          | true =>
            rw [hm] at hk rM
            simp only [if_true] at hk
            simp (disch := omega) only [↓sxA, ↓wk_store, sxB, sxP, Nat.reduceLeDiff, reduceCtorEq, Nat.reduceEqDiff, Nat.reduceAdd, Int.reduceLT, Int.reduceLE, Int.reduceEq, Nat.reduceLT, Int.reduceToNat, Int.reduceAdd, Int.reduceSub, ↓reduceIte, ↓la, ↓a1, ↓rS, ↓rK, ↓rM]
            exact ⟨_, rfl, ⟨j + 1, (j : Int), by simp, hj, hk⟩, hmeas⟩
          | false =>
            rw [hm] at hk rM
            simp only [Bool.false_eq_true, if_false] at hk
            cases hset : (clAt cs j).set with
            | true =>
              rw [hset] at hk o6
              simp only [if_true] at hk
              simp (disch := omega) only [↓sxA, ↓wk_store, sxB, sxP, Nat.reduceLeDiff, reduceCtorEq, Nat.reduceEqDiff, Nat.reduceAdd, Int.reduceLT, Int.reduceLE, Int.reduceEq, Nat.reduceLT, Int.reduceToNat, Int.reduceAdd, Int.reduceSub, ↓reduceIte, ↓la, ↓a1, ↓rS, ↓rK, ↓rM, ↓o2, ↓o6]
              exact ⟨_, rfl, ⟨j + 1, m, by simp, hj, hk⟩, hmeas⟩
            | false =>
              rw [hset] at hk o6
              simp only [Bool.false_eq_true, if_false] at hk
              simp (disch := omega) only [↓sxA, ↓wk_store, sxB, sxP, Nat.reduceLeDiff, reduceCtorEq, Nat.reduceEqDiff, Nat.reduceAdd, Int.reduceLT, Int.reduceLE, Int.reduceEq, Nat.reduceLT, Int.reduceToNat, Int.reduceAdd, Int.reduceSub, ↓reduceIte, ↓la, ↓a1, ↓rS, ↓rK, ↓rM, ↓o2, ↓o6]
              rw [hk]
              exact h
    · have e : l.drop j = [] := List.drop_eq_nil_of_le (by omega)
      have e2 : cs.drop j = [] := List.drop_eq_nil_of_le (by omega)
      rw [e, e2] at hk
      simp only [openL] at hk
      rw [← hk] at h
      simp (disch := omega) only [↓sxA, ↓wk_store, sxB, sxP, Nat.reduceLeDiff, reduceCtorEq, Nat.reduceEqDiff, Nat.reduceAdd, Int.reduceLT, Int.reduceLE, Int.reduceEq, Nat.reduceLT, Int.reduceToNat, Int.reduceAdd, Int.reduceSub, ↓reduceIte, ↓la]
      exact h

theorem q_addU8 (a b : Int) (h0 : 0 ≤ a + b) (h1 : a + b ≤ 255) {K : Value → Prop} : popK (.bin .add) [.int .u8 a, .int .u8 b] K = K (.int .u8 (a + b)) := by
  rw [pk_addI]
  simp only [wrapF]
  rw [if_pos ⟨h0, h1⟩]
theorem q_subU8 (a b : Int) (h0 : 0 ≤ a - b) (h1 : a - b ≤ 255) {K : Value → Prop} : popK (.bin .sub) [.int .u8 a, .int .u8 b] K = K (.int .u8 (a - b)) := by
  rw [pk_subI]
  simp only [wrapF]
  rw [if_pos ⟨h0, h1⟩]
theorem q_conv64 (a : Int) (h0 : 0 ≤ a) (h1 : a ≤ 255) {K : Value → Prop} : popK (.convInt .i64) [.int .u8 a] K = K (.int .i64 a) := by
  rw [pk_convI]
  simp only [wrapF]
  rw [if_pos ⟨by omega, by omega⟩]
theorem wrap64 (a : Int) (h0 : -9223372036854775808 ≤ a) (h1 : a ≤ 9223372036854775807) : wrapF .i64 a = a := by
  simp only [wrapF]
  rw [if_pos ⟨h0, h1⟩]
theorem q_mul10 (a : Int) (h0 : 0 ≤ a) (h1 : a ≤ 4294967296) {K : Value → Prop} : popK (.bin .mul) [.int .i64 a, .int .i64 10] K = K (.int .i64 (a * 10)) := by
  rw [pk_mulI]
  simp only [wrapF]
  rw [if_pos ⟨by omega, by omega⟩]
theorem q_neg64 (a : Int) (h0 : -4294967296 ≤ a) (h1 : a ≤ 4294967296) {K : Value → Prop} : popK (.un .neg) [.int .i64 a] K = K (.int .i64 (-a)) := by
  rw [pk_neg]
  simp only [wrapF]
  rw [if_pos ⟨by omega, by omega⟩]
  congr 2
  omega

theorem Cel.ceq {v : Value} {cs : List Value} (h : Cel st v cs) : cellEq v v = true := by
  rcases h with ⟨h1, _⟩ | ⟨b, o, cap, xs, g, ro, h1, _⟩ | ⟨n, h1, _⟩ <;> subst h1 <;> exact one_eqSlice _ _ _

theorem lower_byte (c : UInt8) : (65 ≤ c.toNat ∧ c.toNat ≤ 90 → u8v (Lib.lowerB c) = .int .u8 ((c.toNat : Int) + 32)) ∧ (¬ (65 ≤ c.toNat ∧ c.toNat ≤ 90) → Lib.lowerB c = c) := by
  have h : ∀ n : Fin 256, ((65 ≤ n.val ∧ n.val ≤ 90) → (Lib.lowerB (UInt8.ofNat n.val)).toNat = n.val + 32) ∧ (¬ (65 ≤ n.val ∧ n.val ≤ 90) → Lib.lowerB (UInt8.ofNat n.val) = UInt8.ofNat n.val) := by decide +kernel
  have := h ⟨c.toNat, c.toNat_lt⟩
  simp only [UInt8.ofNat_toNat] at this
  refine ⟨fun hc => ?_, this.2⟩
  have h1 := this.1 hc
  show Value.int .u8 ((Lib.lowerB c).toNat : Int) = _
  rw [h1]
  congr 1

theorem kLowerR (n : Nat) (s : ByteArray) (hs : s.size ≤ 90000) (h : ∀ st', Frm st st' → K (.string (lowerV s)) st') :
    callK (callO T0 orc fns 100000 (n + 1)) 95 [.string s] st K := by
  refine fn_runs (fn := g95) ?_ ?_ ?_
  · rfl
  · rfl
  unfold g95
  have hsz := size_list s
  simp (disch := omega) only [↓sxA, ↓wk_store, sxB, sxP, Nat.reduceLeDiff, reduceCtorEq, Nat.reduceEqDiff, Nat.reduceAdd, Int.reduceLT, Int.reduceLE, Int.reduceEq, Nat.reduceLT, Int.reduceToNat, Int.reduceAdd, Int.reduceSub, ↓reduceIte]
  refine loop_rule [3, 4] (fun vs s' => ∃ j : Nat, vs = [.slice (some ⟨st.next, 0, none⟩) s.size s.size, .int .i64 (j : Nat)] ∧ j ≤ s.size ∧ s'.next = st.next + 1 ∧ (∀ i, i < st.next → s'.get i = st.get i) ∧ s'.get st.next = some (.row (((s.data.toList.take j).map Lib.lowerB ++ s.data.toList.drop j).map u8v) 1 false)) (fun vs _ => match lget vs 1 with
      | .int _ k => ((s.size : Int) - k).toNat
      | _ => 0) ?_ ?_ ?_
  · rfl
  · refine ⟨_, rfl, ⟨0, rfl, Nat.zero_le _, rfl, fun i hi => get_new_ne _ _ _ (by omega), get_new_same _ _⟩, ?_⟩
    show ((s.size : Int) - 0).toNat < 100000
    omega
  · rintro vs s' ⟨j, rfl, j1, hn, hf, hg⟩
    show sx _ _ _ _ _ [(3, _), (4, _)] _ _ _ _
    have F : Frm st s' := ⟨by omega, hf⟩
    by_cases hj : j < s.size
    · obtain ⟨c, hc, hgd, hb⟩ := byte_at s j hj
      have hlj : ((s.data.toList.take j).map Lib.lowerB).length = j := by rw [List.length_map, List.length_take]; omega
      have hcj : (((s.data.toList.take j).map Lib.lowerB ++ s.data.toList.drop j).map u8v)[j]? = some (.int .u8 (c.toNat : Int)) := by
        rw [List.getElem?_map, List.getElem?_append_right (by omega), hlj, List.getElem?_drop, Nat.sub_self, Nat.add_zero, hc]; rfl
      have hdrop : s.data.toList.drop j = c :: s.data.toList.drop (j + 1) := by
        obtain ⟨h1, h2⟩ := List.getElem?_eq_some_iff.1 hc
        rw [List.drop_eq_getElem_cons h1, h2]
      have htake : s.data.toList.take (j + 1) = s.data.toList.take j ++ [c] := by rw [List.take_add_one, hc]; rfl
      obtain ⟨lb1, lb2⟩ := lower_byte c
      have ix : ∀ K : Value → Prop, popK (.indexAddr 1) [.slice (some ⟨st.next, 0, none⟩) s.size s.size, .int .i64 (j : Int)] K = K (.pointer (some ⟨st.next, j, none⟩)) := fun K => by
        rw [pk_indexAddr]
        have e : (0 : Nat) + (j : Int).toNat * 1 = j := by omega
        rw [e]
        exact propext ⟨fun h => h.2, fun h => ⟨⟨by omega, by omega⟩, h⟩⟩
      have ld : ∀ K : Value → Prop, ropK .load1 [.pointer (some ⟨st.next, j, none⟩)] s' K = K (.int .u8 (c.toNat : Int)) := fun K => by
        rw [rk_load1, hg]
        simp only [getK, rowK]
        exact nthK_at hcj K
      have keepRow : Lib.lowerB c = c → (((s.data.toList.take (j + 1)).map Lib.lowerB ++ s.data.toList.drop (j + 1)).map u8v) = (((s.data.toList.take j).map Lib.lowerB ++ s.data.toList.drop j).map u8v) := fun e => by
        rw [htake, hdrop, List.map_append (f := Lib.lowerB), List.append_assoc]
        simp only [List.map_cons, List.map_nil, e, List.singleton_append]
      have hmeas : ((s.size : Int) - ((j : Int) + 1)).toNat < ((s.size : Int) - j).toNat := by omega
      simp (disch := omega) only [↓sxA, ↓wk_store, sxB, sxP, Nat.reduceLeDiff, reduceCtorEq, Nat.reduceEqDiff, Nat.reduceAdd, Int.reduceLT, Int.reduceLE, Int.reduceEq, Nat.reduceLT, Int.reduceToNat, Int.reduceAdd, Int.reduceSub, ↓reduceIte, ↓ix, ↓ld]
      refine iteI (fun c1 => iteI (fun c2 => ?_) (fun c2 => ?_)) (fun c1 => ?_)
      · have hl : j < (((s.data.toList.take j).map Lib.lowerB ++ s.data.toList.drop j).map u8v).length := by
          rw [List.length_map, List.length_append, hlj, List.length_drop]; omega
        have hrow : lputs (((s.data.toList.take j).map Lib.lowerB ++ s.data.toList.drop j).map u8v) j [.int .u8 ((c.toNat : Int) + 32)] = (((s.data.toList.take (j + 1)).map Lib.lowerB ++ s.data.toList.drop (j + 1)).map u8v) := by
          rw [htake, hdrop, ← lb1 ⟨by omega, by omega⟩]
          simp only [List.map_append, List.map_cons, List.map_nil, List.append_assoc, List.singleton_append]
          unfold lputs
          have e1 : ((s.data.toList.take j).map Lib.lowerB |>.map u8v).length = j := by rw [List.length_map]; exact hlj
          rw [List.take_left' e1, ← List.drop_drop, List.drop_left' e1]
          simp
        have stw : ∀ W : Value → St → Prop, wopK (.store 1) [.pointer (some ⟨st.next, j, none⟩), .int .u8 ((c.toNat : Int) + 32)] s' W = W undef (s'.put st.next (some (.row (((s.data.toList.take (j + 1)).map Lib.lowerB ++ s.data.toList.drop (j + 1)).map u8v) 1 false))) := fun W => by
          rw [wk_store, hg]
          simp only [getK, rowK]
          rw [show cellsOf (.int .u8 ((c.toNat : Int) + 32)) = [.int .u8 ((c.toNat : Int) + 32)] from rfl, hrow]
          exact propext ⟨fun h => h.2.2, fun h => ⟨rfl, ⟨by first | trivial | rfl, by omega, by rfl⟩, h⟩⟩
        simp (disch := omega) only [q_addU8, ↓sxA, ↓wk_store, sxB, sxP, Nat.reduceLeDiff, reduceCtorEq, Nat.reduceEqDiff, Nat.reduceAdd, Int.reduceLT, Int.reduceLE, Int.reduceEq, Nat.reduceLT, Int.reduceToNat, Int.reduceAdd, Int.reduceSub, ↓reduceIte, ↓ix, ↓stw]
        exact ⟨_, rfl, ⟨j + 1, by simp, hj, hn, fun i hi => (get_put_ne _ _ _ _ (by omega)).trans (hf i hi), by first | rfl | exact get_put_same _ _ _⟩, hmeas⟩
      · refine ⟨_, rfl, ⟨j + 1, by simp, hj, hn, hf, ?_⟩, hmeas⟩
        rw [keepRow (lb2 (by omega))]; exact hg
      · refine ⟨_, rfl, ⟨j + 1, by simp, hj, hn, hf, ?_⟩, hmeas⟩
        rw [keepRow (lb2 (by omega))]; exact hg
    · have hjs : j = s.size := by omega
      have e1 : s.data.toList.take j = s.data.toList := List.take_of_length_le (by omega)
      have e2 : s.data.toList.drop j = [] := List.drop_eq_nil_of_le (by omega)
      rw [e1, e2, List.append_nil] at hg
      have hlow : lowerV s = bs (s.data.toList.map Lib.lowerB) := rfl
      have hgro : Gro s' (.slice (some ⟨st.next, 0, none⟩) s.size s.size) (s.data.toList.map Lib.lowerB) := .inr (.inl ⟨st.next, 0, s.size, _, by rw [List.length_map, hsz], by rw [List.length_map, hsz]; exact Nat.le_refl _, hg, by simp, by rw [List.drop_zero, List.take_of_length_le (by simp)]⟩)
      have rs := fun K => rk_str (K := K) hgro
      rw [hlow] at h
      simp (disch := omega) only [↓sxA, ↓wk_store, sxB, sxP, Nat.reduceLeDiff, reduceCtorEq, Nat.reduceEqDiff, Nat.reduceAdd, Int.reduceLT, Int.reduceLE, Int.reduceEq, Nat.reduceLT, Int.reduceToNat, Int.reduceAdd, Int.reduceSub, ↓reduceIte, ↓rs]
      exact h _ F

theorem kKnown (n : Nat) {lo : Nat} {lv : Value} {l : List IM} (s : ByteArray) (hs : s.size ≤ 90000) (hR : ItR lo st lv l) (hl : l.length < 90000) (hN : NmOk l) (h : ∀ st', Frm st st' → K (.int .i64 (knownL (lowerV s) l 0)) st') :
    callK (callO T0 orc fns 100000 (n + 2)) 55 [lv, .string s] st K := by
  refine fn_runs (fn := g55) ?_ ?_ ?_
  · rfl
  · rfl
  unfold g55
  have la := hR.len
  simp (disch := omega) only [↓sxA, ↓wk_store, sxB, sxP, Nat.reduceLeDiff, reduceCtorEq, Nat.reduceEqDiff, Nat.reduceAdd, Int.reduceLT, Int.reduceLE, Int.reduceEq, Nat.reduceLT, Int.reduceToNat, Int.reduceAdd, Int.reduceSub, ↓reduceIte]
  refine loop_rule [0, 1, 5] (fun vs s' => ∃ j : Nat, vs = [lv, .string s, .int .i64 (j : Nat)] ∧ j ≤ l.length ∧ Frm st s' ∧ knownL (lowerV s) (l.drop j) j = knownL (lowerV s) l 0) (fun vs _ => match lget vs 2 with
      | .int _ k => ((l.length : Int) - k).toNat
      | _ => 0) ?_ ?_ ?_
  · rfl
  · refine ⟨_, rfl, ⟨0, rfl, Nat.zero_le _, Frm.refl _, rfl⟩, ?_⟩
    show ((l.length : Int) - 0).toNat < 100000
    omega
  · rintro vs s1 ⟨j, rfl, j1, F, hk⟩
    show sx _ _ _ _ _ [(0, _), (1, _), (5, _)] _ _ _ _
    by_cases hj : j < l.length
    · have hR1 := hR.keep (st' := s1) F.nx fun i _ hi => F.old i hi
      obtain ⟨bb, nv, a1, a2, a3, a4⟩ := hR1.at2 hj
      have hm := hN _ (List.getElem_mem hj)
      rw [List.drop_eq_getElem_cons hj] at hk
      simp only [knownL] at hk
      have rN := fun s' (F' : Frm s1 s') => a2 s' F' 0 nv rfl
      have rN1 := rN s1 (Frm.refl _)
      simp (disch := omega) only [↓sxA, ↓wk_store, sxB, sxP, Nat.reduceLeDiff, reduceCtorEq, Nat.reduceEqDiff, Nat.reduceAdd, Int.reduceLT, Int.reduceLE, Int.reduceEq, Nat.reduceLT, Int.reduceToNat, Int.reduceAdd, Int.reduceSub, ↓reduceIte, ↓la, ↓a1, ↓rN1]
      refine kLowerR n s hs fun s2 F2 => ?_
      have ag := again (rN s2 F2) (Cel.ceq a3)
      simp (disch := omega) only [↓sxA, ↓wk_store, sxB, sxP, Nat.reduceLeDiff, reduceCtorEq, Nat.reduceEqDiff, Nat.reduceAdd, Int.reduceLT, Int.reduceLE, Int.reduceEq, Nat.reduceLT, Int.reduceToNat, Int.reduceAdd, Int.reduceSub, ↓reduceIte]
      refine (ag _).mpr ?_
      simp (disch := omega) only [↓sxA, ↓wk_store, sxB, sxP, Nat.reduceLeDiff, reduceCtorEq, Nat.reduceEqDiff, Nat.reduceAdd, Int.reduceLT, Int.reduceLE, Int.reduceEq, Nat.reduceLT, Int.reduceToNat, Int.reduceAdd, Int.reduceSub, ↓reduceIte]
      have hmeas : ((l.length : Int) - ((j : Int) + 1)).toNat < ((l.length : Int) - j).toNat := by omega
      refine kHas n (a3.keep fun i hi => F2.old i (by omega)) hm (fun hin r hr => ?_) (fun hin => ?_)
      · rw [if_pos hin] at hk
        simp (disch := omega) only [↓sxA, ↓wk_store, sxB, sxP, Nat.reduceLeDiff, reduceCtorEq, Nat.reduceEqDiff, Nat.reduceAdd, Int.reduceLT, Int.reduceLE, Int.reduceEq, Nat.reduceLT, Int.reduceToNat, Int.reduceAdd, Int.reduceSub, ↓reduceIte]
        rw [hk]
        exact h _ (F.trans F2)
      · rw [if_neg hin] at hk
        simp (disch := omega) only [↓sxA, ↓wk_store, sxB, sxP, Nat.reduceLeDiff, reduceCtorEq, Nat.reduceEqDiff, Nat.reduceAdd, Int.reduceLT, Int.reduceLE, Int.reduceEq, Nat.reduceLT, Int.reduceToNat, Int.reduceAdd, Int.reduceSub, ↓reduceIte]
        exact ⟨_, rfl, ⟨j + 1, by simp, hj, F.trans F2, hk⟩, hmeas⟩
    · have e : l.drop j = [] := List.drop_eq_nil_of_le (by omega)
      rw [e] at hk
      simp only [knownL] at hk
      rw [← hk] at h
      simp (disch := omega) only [↓sxA, ↓wk_store, sxB, sxP, Nat.reduceLeDiff, reduceCtorEq, Nat.reduceEqDiff, Nat.reduceAdd, Int.reduceLT, Int.reduceLE, Int.reduceEq, Nat.reduceLT, Int.reduceToNat, Int.reduceAdd, Int.reduceSub, ↓reduceIte, ↓la]
      exact h _ F

/-- a number that stops growing -/
def sat (x : Nat) : Int := if x ≤ 2147483648 then (x : Int) else 2147483649
theorem dval_app (c : UInt8) (l : List UInt8) : ∀ a : Nat, dval a (l ++ [c]) = dval a l * 10 + (c.toNat - 48) := by
  induction l with
  | nil => intro a; rfl
  | cons x l ih => intro a; exact ih (a * 10 + (x.toNat - 48))

set_option maxHeartbeats 1000000 in
theorem kNumberR (n : Nat) (s : ByteArray) (hs : s.size ≤ 90000) (h : K (numVal (numA s.data.toList)) st) :
    callK (callO T0 orc fns 100000 (n + 1)) 25 [.string s] st K := by
  refine fn_runs (fn := g25) ?_ ?_ ?_
  · rfl
  · rfl
  unfold g25
  have hsz := size_list s
  have hcase : ∃ a : Nat, a ≤ 1 ∧ a ≤ s.size ∧ digits s.data.toList = s.data.toList.drop a ∧ ((a = 1 ∧ neg s.data.toList = true ∧ 0 < s.size ∧ s.data.toList.getD 0 0 = 45) ∨ (a = 0 ∧ neg s.data.toList = false ∧ (s.size = 0 ∨ (0 < s.size ∧ ¬ ((s.data.toList.getD 0 0).toNat : Int) = 45)))) := by
    cases hl : s.data.toList with
    | nil =>
      rw [hl] at hsz
      exact ⟨0, by decide, by omega, rfl, .inr ⟨rfl, rfl, .inl hsz⟩⟩
    | cons c r =>
      rw [hl] at hsz
      simp only [List.length_cons] at hsz
      by_cases hc : c = 45
      · subst hc
        exact ⟨1, by decide, by omega, rfl, .inl ⟨rfl, rfl, by omega, rfl⟩⟩
      · refine ⟨0, by decide, by omega, by simp [digits, hc], .inr ⟨rfl, by simp [neg, hc], .inr ⟨by omega, fun e => hc ?_⟩⟩⟩
        exact u8_eq e
  obtain ⟨a, ha1, has, hdg, hneg⟩ := hcase
  obtain ⟨b, hb⟩ : ∃ b, b = neg s.data.toList := ⟨_, rfl⟩
  have tail : ∀ (e : Int), True := fun _ => trivial
  have hnum : numA s.data.toList = if s.data.toList.drop a ≠ [] ∧ (s.data.toList.drop a).all dig = true then (if b = true then (if dval 0 (s.data.toList.drop a) ≤ 2147483648 then some (-(dval 0 (s.data.toList.drop a) : Int)) else none) else if dval 0 (s.data.toList.drop a) ≤ 2147483647 then some (dval 0 (s.data.toList.drop a) : Int) else none) else none := by
    unfold numA; rw [hdg, hb]
  rw [hnum] at h
  have hdl : (s.data.toList.drop a).length = s.size - a := by rw [List.length_drop]; omega
  have hD : ∀ i, (s.data.toList.drop a)[i]? = s.data.toList[a + i]? := fun i => List.getElem?_drop
  clear hdg
  generalize s.data.toList.drop a = D at h hnum hdl hD
  have empty : a = s.size → K (numVal none) st := fun e => by
    rw [if_neg (fun hh => hh.1 (List.eq_nil_of_length_eq_zero (by omega)))] at h
    exact h
  rcases hneg with ⟨rfl, hn, h0, hg0⟩ | ⟨rfl, hn, h0⟩
  case' inl =>
    rw [hn] at hb
    subst hb
    have hq : ((45 : UInt8).toNat : Int) = 45 := rfl
    have hi0 : ∀ K' : Value → Prop, popK .indexStr [.string s, .int .i64 0] K' = K' (.int .u8 45) := fun K' => by
      rw [q_indexStr s .i64 0 (by omega) (by omega)]
      rw [show (0 : Int).toNat = 0 from rfl, hg0]; rfl
  case' inr =>
    rw [hn] at hb
    subst hb
  case inl =>
    by_cases he : (1 : Nat) = s.size
    · have hen := empty he
      simp (disch := omega) only [↓sxA, ↓wk_store, sxB, sxP, Nat.reduceLeDiff, reduceCtorEq, Nat.reduceEqDiff, Nat.reduceAdd, Int.reduceLT, Int.reduceLE, Int.reduceEq, Nat.reduceLT, Int.reduceToNat, Int.reduceAdd, Int.reduceSub, ↓reduceIte, ↓hi0]
      exact hen
    simp (disch := omega) only [↓sxA, ↓wk_store, sxB, sxP, Nat.reduceLeDiff, reduceCtorEq, Nat.reduceEqDiff, Nat.reduceAdd, Int.reduceLT, Int.reduceLE, Int.reduceEq, Nat.reduceLT, Int.reduceToNat, Int.reduceAdd, Int.reduceSub, ↓reduceIte, ↓hi0]
    refine loop_rule [0, 5, 6, 7] (fun vs s' => s' = st ∧ ∃ j : Nat, vs = [.string s, .bool true, .int .i64 (sat (dval 0 (D.take (j - 1)))), .int .i64 (j : Nat)] ∧ 1 ≤ j ∧ j ≤ s.size ∧ (D.take (j - 1)).all dig = true) (fun vs _ => match lget vs 3 with
        | .int _ k => ((s.size : Int) - k).toNat
        | _ => 0) ?_ ?_ ?_
    · rfl
    · refine ⟨_, rfl, ⟨rfl, 1, by rw [Nat.sub_self, List.take_zero]; rfl, Nat.le_refl _, by omega, by rw [Nat.sub_self, List.take_zero]; rfl⟩, ?_⟩
      show ((s.size : Int) - (1 : Int)).toNat < 100000
      omega
    · rintro vs s' ⟨rfl, j, rfl, j0, j1, j2⟩
      show sx _ _ _ _ _ [(0, _), (5, _), (6, _), (7, _)] _ _ _ _
      obtain ⟨x, hx⟩ : ∃ x, x = dval 0 (D.take (j - 1)) := ⟨_, rfl⟩
      rw [← hx]
      have sat0 : 0 ≤ sat x := by unfold sat; split <;> omega
      have sat1 : sat x ≤ 2147483649 := by unfold sat; split <;> omega
      by_cases hj : j < s.size
      · obtain ⟨c, hc, hg, hb'⟩ := byte_at s j hj
        have hcd : D[j - 1]? = some c := by rw [hD, show 1 + (j - 1) = j by omega]; exact hc
        have htk : D.take (j + 1 - 1) = D.take (j - 1) ++ [c] := by rw [show j + 1 - 1 = (j - 1) + 1 by omega, List.take_add_one, hcd]; rfl
        have bad : dig c = false → K (numVal none) s' := fun hp => by
          rw [if_neg] at h
          · exact h
          · rintro ⟨_, hh⟩
            have := List.all_eq_true.1 hh c (List.mem_of_getElem? hcd)
            rw [hp] at this
            cases this
        have good : dig c = true → (D.take (j + 1 - 1)).all dig = true := fun hp => by
          rw [htk, List.all_append, j2]; simp [hp]
        have hdv : dval 0 (D.take (j + 1 - 1)) = x * 10 + (c.toNat - 48) := by rw [htk, dval_app, ← hx]
        have hmeas : ((s.size : Int) - ((j : Int) + 1)).toNat < ((s.size : Int) - j).toNat := by omega
        simp (disch := omega) only [q_indexStr, Int.toNat_natCast, hg, ↓sxA, ↓wk_store, sxB, sxP, Nat.reduceLeDiff, reduceCtorEq, Nat.reduceEqDiff, Nat.reduceAdd, Int.reduceLT, Int.reduceLE, Int.reduceEq, Nat.reduceLT, Int.reduceToNat, Int.reduceAdd, Int.reduceSub, ↓reduceIte]
        refine iteI (fun c1 => ?_) (fun c1 => iteI (fun c2 => ?_) (fun c2 => ?_))
        · exact bad (by simp [dig]; omega)
        · exact bad (by simp [dig]; omega)
        · have hd : dig c = true := by simp [dig]; omega
          have hcast : (c.toNat : Int) - 48 = ((c.toNat - 48 : Nat) : Int) := by omega
          simp (disch := omega) only [q_indexStr, q_subU8, wrap64, Int.toNat_natCast, hg, ↓sxA, ↓wk_store, sxB, sxP, Nat.reduceLeDiff, reduceCtorEq, Nat.reduceEqDiff, Nat.reduceAdd, Int.reduceLT, Int.reduceLE, Int.reduceEq, Nat.reduceLT, Int.reduceToNat, Int.reduceAdd, Int.reduceSub, ↓reduceIte]
          refine iteI (fun c3 => ?_) (fun c3 => ?_)
          · refine ⟨_, rfl, ⟨j + 1, ?_, by omega, hj, good hd⟩, hmeas⟩
            rw [hdv]
            have : sat (x * 10 + (c.toNat - 48)) = 2147483649 := by
              unfold sat at c3 ⊢
              rw [if_neg]
              split at c3 <;> omega
            rw [this]
            simp
          · refine ⟨_, rfl, ⟨j + 1, ?_, by omega, hj, good hd⟩, hmeas⟩
            rw [hdv]
            have : sat (x * 10 + (c.toNat - 48)) = sat x * 10 + ((c.toNat : Int) - 48) := by
              unfold sat at c3 ⊢
              split at c3
              · rw [if_pos (by omega)]; rw [if_pos (by assumption)]; omega
              · omega
            rw [this]
            simp
      · have e : D.take (j - 1) = D := List.take_of_length_le (by omega)
        rw [e] at hx j2
        have hne : D ≠ [] := fun hh => by
          have := congrArg List.length hh
          rw [hdl, List.length_nil] at this
          omega
        rw [if_pos ⟨hne, j2⟩, ← hx] at h
        simp only [if_true] at h
        by_cases hxv : x ≤ 2147483648
        · rw [if_pos hxv, numVal_some] at h
          have hs' : sat x = (x : Int) := by unfold sat; rw [if_pos hxv]
          rw [hs']
          simp (disch := omega) only [wrap64, Int.zero_sub, ↓sxA, ↓wk_store, sxB, sxP, Nat.reduceLeDiff, reduceCtorEq, Nat.reduceEqDiff, Nat.reduceAdd, Int.reduceLT, Int.reduceLE, Int.reduceEq, Nat.reduceLT, Int.reduceToNat, Int.reduceAdd, Int.reduceSub, ↓reduceIte]
          rw [if_neg (by omega), if_neg (by omega)]
          exact h
        · rw [if_neg hxv, numVal_none] at h
          have hs' : sat x = 2147483649 := by unfold sat; rw [if_neg hxv]
          rw [hs']
          simp (disch := omega) only [wrap64, Int.zero_sub, ↓sxA, ↓wk_store, sxB, sxP, Nat.reduceLeDiff, reduceCtorEq, Nat.reduceEqDiff, Nat.reduceAdd, Int.reduceLT, Int.reduceLE, Int.reduceEq, Nat.reduceLT, Int.reduceToNat, Int.reduceAdd, Int.reduceSub, ↓reduceIte]
          exact h
  case inr =>
    by_cases he : (0 : Nat) = s.size
    · have hen := empty he
      simp (disch := omega) only [↓sxA, ↓wk_store, sxB, sxP, Nat.reduceLeDiff, reduceCtorEq, Nat.reduceEqDiff, Nat.reduceAdd, Int.reduceLT, Int.reduceLE, Int.reduceEq, Nat.reduceLT, Int.reduceToNat, Int.reduceAdd, Int.reduceSub, ↓reduceIte]
      exact hen
    have hi0 : ∀ K' : Value → Prop, popK .indexStr [.string s, .int .i64 0] K' = K' (.int .u8 ((s.data.toList.getD 0 0).toNat : Int)) := fun K' => by
      rw [q_indexStr s .i64 0 (by omega) (by omega)]
      rfl
    have hq1 : (((s.data.toList.getD 0 0).toNat : Int) = 45) = False := eq_false fun e => by
      rcases h0 with h0 | h0
      · omega
      · exact h0.2 e
    simp (disch := omega) only [↓sxA, ↓wk_store, sxB, sxP, Nat.reduceLeDiff, reduceCtorEq, Nat.reduceEqDiff, Nat.reduceAdd, Int.reduceLT, Int.reduceLE, Int.reduceEq, Nat.reduceLT, Int.reduceToNat, Int.reduceAdd, Int.reduceSub, ↓reduceIte, ↓hi0, hq1]
    refine loop_rule [0, 5, 6, 7] (fun vs s' => s' = st ∧ ∃ j : Nat, vs = [.string s, .bool false, .int .i64 (sat (dval 0 (D.take (j - 0)))), .int .i64 (j : Nat)] ∧ 0 ≤ j ∧ j ≤ s.size ∧ (D.take (j - 0)).all dig = true) (fun vs _ => match lget vs 3 with
        | .int _ k => ((s.size : Int) - k).toNat
        | _ => 0) ?_ ?_ ?_
    · rfl
    · refine ⟨_, rfl, ⟨rfl, 0, by rw [Nat.sub_self, List.take_zero]; rfl, Nat.le_refl _, by omega, by rw [Nat.sub_self, List.take_zero]; rfl⟩, ?_⟩
      show ((s.size : Int) - (0 : Int)).toNat < 100000
      omega
    · rintro vs s' ⟨rfl, j, rfl, j0, j1, j2⟩
      show sx _ _ _ _ _ [(0, _), (5, _), (6, _), (7, _)] _ _ _ _
      obtain ⟨x, hx⟩ : ∃ x, x = dval 0 (D.take (j - 0)) := ⟨_, rfl⟩
      rw [← hx]
      have sat0 : 0 ≤ sat x := by unfold sat; split <;> omega
      have sat1 : sat x ≤ 2147483649 := by unfold sat; split <;> omega
      by_cases hj : j < s.size
      · obtain ⟨c, hc, hg, hb'⟩ := byte_at s j hj
        have hcd : D[j - 0]? = some c := by rw [hD, show 0 + (j - 0) = j by omega]; exact hc
        have htk : D.take (j + 1 - 0) = D.take (j - 0) ++ [c] := by rw [show j + 1 - 0 = (j - 0) + 1 by omega, List.take_add_one, hcd]; rfl
        have bad : dig c = false → K (numVal none) s' := fun hp => by
          rw [if_neg] at h
          · exact h
          · rintro ⟨_, hh⟩
            have := List.all_eq_true.1 hh c (List.mem_of_getElem? hcd)
            rw [hp] at this
            cases this
        have good : dig c = true → (D.take (j + 1 - 0)).all dig = true := fun hp => by
          rw [htk, List.all_append, j2]; simp [hp]
        have hdv : dval 0 (D.take (j + 1 - 0)) = x * 10 + (c.toNat - 48) := by rw [htk, dval_app, ← hx]
        have hmeas : ((s.size : Int) - ((j : Int) + 1)).toNat < ((s.size : Int) - j).toNat := by omega
        simp (disch := omega) only [q_indexStr, Int.toNat_natCast, hg, ↓sxA, ↓wk_store, sxB, sxP, Nat.reduceLeDiff, reduceCtorEq, Nat.reduceEqDiff, Nat.reduceAdd, Int.reduceLT, Int.reduceLE, Int.reduceEq, Nat.reduceLT, Int.reduceToNat, Int.reduceAdd, Int.reduceSub, ↓reduceIte]
        refine iteI (fun c1 => ?_) (fun c1 => iteI (fun c2 => ?_) (fun c2 => ?_))
        · exact bad (by simp [dig]; omega)
        · exact bad (by simp [dig]; omega)
        · have hd : dig c = true := by simp [dig]; omega
          have hcast : (c.toNat : Int) - 48 = ((c.toNat - 48 : Nat) : Int) := by omega
          simp (disch := omega) only [q_indexStr, q_subU8, wrap64, Int.toNat_natCast, hg, ↓sxA, ↓wk_store, sxB, sxP, Nat.reduceLeDiff, reduceCtorEq, Nat.reduceEqDiff, Nat.reduceAdd, Int.reduceLT, Int.reduceLE, Int.reduceEq, Nat.reduceLT, Int.reduceToNat, Int.reduceAdd, Int.reduceSub, ↓reduceIte]
          refine iteI (fun c3 => ?_) (fun c3 => ?_)
          · refine ⟨_, rfl, ⟨j + 1, ?_, by omega, hj, good hd⟩, hmeas⟩
            rw [hdv]
            have : sat (x * 10 + (c.toNat - 48)) = 2147483649 := by
              unfold sat at c3 ⊢
              rw [if_neg]
              split at c3 <;> omega
            rw [this]
            simp
          · refine ⟨_, rfl, ⟨j + 1, ?_, by omega, hj, good hd⟩, hmeas⟩
            rw [hdv]
            have : sat (x * 10 + (c.toNat - 48)) = sat x * 10 + ((c.toNat : Int) - 48) := by
              unfold sat at c3 ⊢
              split at c3
              · rw [if_pos (by omega)]; rw [if_pos (by assumption)]; omega
              · omega
            rw [this]
            simp
      · have e : D.take (j - 0) = D := List.take_of_length_le (by omega)
        rw [e] at hx j2
        have hne : D ≠ [] := fun hh => by
          have := congrArg List.length hh
          rw [hdl, List.length_nil] at this
          omega
        rw [if_pos ⟨hne, j2⟩, ← hx] at h
        simp only [Bool.false_eq_true, if_false] at h
        by_cases hxv : x ≤ 2147483647
        · rw [if_pos hxv, numVal_some] at h
          have hs' : sat x = (x : Int) := by unfold sat; rw [if_pos (by omega)]
          rw [hs']
          simp (disch := omega) only [↓sxA, ↓wk_store, sxB, sxP, Nat.reduceLeDiff, reduceCtorEq, Nat.reduceEqDiff, Nat.reduceAdd, Int.reduceLT, Int.reduceLE, Int.reduceEq, Nat.reduceLT, Int.reduceToNat, Int.reduceAdd, Int.reduceSub, ↓reduceIte]
          exact h
        · rw [if_neg hxv, numVal_none] at h
          have hs' : 2147483647 < sat x := by unfold sat; split <;> omega
          have hs2 : ¬ sat x < -2147483648 := by omega
          simp (disch := omega) only [↓sxA, ↓wk_store, sxB, sxP, Nat.reduceLeDiff, reduceCtorEq, Nat.reduceEqDiff, Nat.reduceAdd, Int.reduceLT, Int.reduceLE, Int.reduceEq, Nat.reduceLT, Int.reduceToNat, Int.reduceAdd, Int.reduceSub, ↓reduceIte]
          exact h
end
end Go.Proofs.YtdmemibnphcedaaGreatDoor
