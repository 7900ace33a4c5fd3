/-
  ArgsQuotes on the second machine.
-/
import Derived.Test.YtdmemibnphcedaaGreatDoorRQtsClaimPart40
import Derived.Test.YtdmemibnphcedaaGreatDoorRQtsClaimPart41
import Derived.Test.YtdmemibnphcedaaGreatDoorRQtsClaimPart42
import Derived.Test.YtdmemibnphcedaaGreatDoorRQtsClaimPart43
set_option linter.unusedSimpArgs false
set_option linter.unusedVariables false
set_option maxRecDepth 10000
set_option linter.unusedSectionVars false
namespace Go.Proofs.YtdmemibnphcedaaGreatDoor
open Go.Am

theorem okB_iff (c : UInt8) : okB c = true ↔ c.toNat = 10 ∨ (32 ≤ c.toNat ∧ c.toNat ≤ 126) := by
  unfold okB prn
  simp only [Bool.or_eq_true, Bool.and_eq_true, decide_eq_true_eq]
theorem quoteL_len {l : List UInt8} (h : l.all okB = true) : (quoteL l).length ≤ 2 * l.length + 2 := by
  have := escL_len l
  have := nesc_le l
  rw [quoteL_ok h]
  split
  · simp only [List.length_cons, List.length_append, List.length_nil]; omega
  · omega

attribute [local irreducible] callO wopK ropK popK opK grpsE listE sx Runs

/-- between two words -/
def QI (s0 : St) (wv bv : Value) (t : ByteArray) (ws : List ByteArray) (vs : List Value) (s : St) : Prop :=
  ∃ (j : Nat) (v : Value) (l : List (Nat × List UInt8)), vs = [wv, bv, .string t, v, .int .i64 (j : Nat)] ∧ j ≤ ws.length ∧ l.map (·.2) = (ws.take j).map (·.data.toList) ∧ (∀ x ∈ l, x.2.all okB = true) ∧ Wr s0 s v (lineQ l) ∧ (lineQ l).length ≤ 200 * j
/-- between two bytes of a word -/
def QI2 (s1 : St) (wv bv v : Value) (t x : ByteArray) (j : Nat) (vs : List Value) (s : St) : Prop :=
  s = s1 ∧ ∃ k : Nat, vs = [wv, bv, .string t, v, .int .i64 (j : Nat), .string x, .int .i64 (k : Nat)] ∧ k ≤ x.size ∧ (x.data.toList.take k).all okB = true
/-- between two blanks -/
def QI3 (s0 : St) (wv bv : Value) (t x : ByteArray) (j nb : Nat) (L : List UInt8) (vs : List Value) (s : St) : Prop :=
  ∃ (k : Nat) (v : Value), vs = [wv, bv, .string t, v, .int .i64 (j : Nat), .string x, .int .i64 (1 + (nb : Int)), .int .i64 (k : Nat)] ∧ k ≤ nb + 1 ∧ Wr s0 s v (L ++ List.replicate k 32)

section
variable {st : St} {K : Value → St → Prop}

set_option maxHeartbeats 16000000 in
theorem kArgsQuotes {M : Nat} (hM : 100000 ≤ M) {wv bv : Value} {ws : List ByteArray} {bl : List UInt8} (t : ByteArray) (hw : Cel st wv (ws.map Value.string)) (hwo : ow wv ≤ st.next) (hwM : ∀ x ∈ ws, x.size < M ∧ x.size ≤ 9223372036854775807) (hb : Bys st bv bl) (hbo : ow bv ≤ st.next) (h0 : 0 < st.next) (hm : hasMax st = true) (h : ∀ st', K (.bool true) st') :
    callK (callO T0 orcW fnsW M 1) 6 [wv, bv, .string t] st K := by
  refine fn_runs (fn := g6) ?_ ?_ ?_
  · rfl
  · rfl
  unfold g6
  have n1 := len_cel hw
  have n2 := len_bys hb
  rw [List.length_map] at n1
  by_cases hl : ws.length ≤ 20
  case neg =>
    simp (disch := omega) only [↓sxA, ↓wk_store, sxB, sxP, Nat.reduceLeDiff, reduceCtorEq, Nat.reduceEqDiff, Nat.reduceAdd, Int.reduceLT, Int.reduceLE, Int.reduceEq, Nat.reduceLT, Int.reduceToNat, Int.reduceAdd, Int.reduceSub, ↓reduceIte, ↓n1]
    exact h _
  have F1 := Frm.new st (.row [.string t] 0 false)
  simp (disch := omega) only [↓sxA, ↓wk_store, sxB, sxP, Nat.reduceLeDiff, reduceCtorEq, Nat.reduceEqDiff, Nat.reduceAdd, Int.reduceLT, Int.reduceLE, Int.reduceEq, Nat.reduceLT, Int.reduceToNat, Int.reduceAdd, Int.reduceSub, ↓reduceIte, ↓n1]
  refine kBelow 0 (by rfl) (by decide) ?_
  refine kHeavy _ (xs := [t]) (cel_row (get_new_same _ _) rfl) (by show 1 < 90000; decide) ?_ (fun hsz => ?_)
  · simp (disch := omega) only [↓sxA, ↓wk_store, sxB, sxP, Nat.reduceLeDiff, reduceCtorEq, Nat.reduceEqDiff, Nat.reduceAdd, Int.reduceLT, Int.reduceLE, Int.reduceEq, Nat.reduceLT, Int.reduceToNat, Int.reduceAdd, Int.reduceSub, ↓reduceIte]
    exact h _
  have ht := hsz t (by simp)
  obtain ⟨s0, hs0⟩ : ∃ s0, s0 = st.new (.row [.string t] 0 false) := ⟨_, rfl⟩
  rw [← hs0] at F1 ⊢
  simp (disch := omega) only [↓sxA, ↓wk_store, sxB, sxP, Nat.reduceLeDiff, reduceCtorEq, Nat.reduceEqDiff, Nat.reduceAdd, Int.reduceLT, Int.reduceLE, Int.reduceEq, Nat.reduceLT, Int.reduceToNat, Int.reduceAdd, Int.reduceSub, ↓reduceIte]
  refine loop_rule [0, 1, 2, 7, 8] (QI s0 wv bv t ws) (fun vs _ => match lget vs 4 with
      | .int _ k => ((ws.length : Int) - k).toNat
      | _ => 0) ?_ ?_ ?_
  · rfl
  · refine ⟨_, rfl, ⟨0, _, [], rfl, Nat.zero_le _, rfl, (fun x hx => by cases hx), ⟨Gro.nil _, .inl rfl, Nat.zero_le _, Frm.refl _⟩, Nat.zero_le _⟩, ?_⟩
    show ((ws.length : Int) - 0).toNat < M
    omega
  · rintro vs s1 ⟨j, v, l, rfl, hj, hlm, hlo, hW, hlen⟩
    show sx _ _ _ _ _ [(0, _), (1, _), (2, _), (7, _), (8, _)] _ _ _ _
    have F := F1.trans hW.2.2.2
    by_cases hjl : j < ws.length
    · have hw1 : Cel s1 wv (ws.map Value.string) := hw.keep fun i hi => F.old i (by omega)
      have hb1 : Bys s1 bv bl := hb.keep fun i hi => F.old i (by omega)
      have i1 := idx_cel hw1
      have ld := load_cel hw1
      rw [List.length_map] at i1 ld
      have e := getD_str ws j hjl
      have hxs : ws.take (j + 1) = ws.take j ++ [ws.getD j .empty] := by
        rw [List.take_add_one, List.getElem?_eq_getElem hjl, List.getD_eq_getElem?_getD, List.getElem?_eq_getElem hjl]
        rfl
      have hxM : (ws.getD j .empty).size < M ∧ (ws.getD j .empty).size ≤ 9223372036854775807 := by
        rw [List.getD_eq_getElem?_getD, List.getElem?_eq_getElem hjl]
        exact hwM _ (List.getElem_mem hjl)
      generalize ws.getD j .empty = x at e hxs hxM
      have hxz := size_list x
      have ld' : ∀ K : Value → Prop, ropK .load1 [bptr wv (j : Int)] s1 K = K (.string x) := fun K => by rw [ld j K (by omega) (by omega), Int.toNat_natCast, e]
      simp (disch := omega) only [↓sxA, ↓wk_store, sxB, sxP, Nat.reduceLeDiff, reduceCtorEq, Nat.reduceEqDiff, Nat.reduceAdd, Int.reduceLT, Int.reduceLE, Int.reduceEq, Nat.reduceLT, Int.reduceToNat, Int.reduceAdd, Int.reduceSub, ↓reduceIte, ↓n1, ↓i1, ↓ld']
      refine loop_rule [0, 1, 2, 7, 8, 9, 10] (QI2 s1 wv bv v t x j) (fun vs _ => match lget vs 6 with
          | .int _ k => ((x.size : Int) - k).toNat
          | _ => 0) ?_ ?_ ?_
      · rfl
      · refine ⟨_, rfl, ⟨rfl, 0, rfl, Nat.zero_le _, rfl⟩, ?_⟩
        show ((x.size : Int) - 0).toNat < M
        omega
      · rintro vs s2 ⟨rfl, k, rfl, hk, hok⟩
        show sx _ _ _ _ _ [(0, _), (1, _), (2, _), (7, _), (8, _), (9, _), (10, _)] _ _ _ _
        by_cases hkl : k < x.size
        · obtain ⟨c, hc, hgd, hcb⟩ := byte_at x k hkl
          have step : okB c = true → (x.data.toList.take (k + 1)).all okB = true := fun hh => by
            rw [List.take_add_one, hc, List.all_append, hok]
            simp [hh]
          have hmeas : ((x.size : Int) - ((k : Int) + 1)).toNat < ((x.size : Int) - k).toNat := by omega
          simp (disch := omega) only [q_indexStr, Int.toNat_natCast, hgd, ↓sxA, ↓wk_store, sxB, sxP, Nat.reduceLeDiff, reduceCtorEq, Nat.reduceEqDiff, Nat.reduceAdd, Int.reduceLT, Int.reduceLE, Int.reduceEq, Nat.reduceLT, Int.reduceToNat, Int.reduceAdd, Int.reduceSub, ↓reduceIte]
          refine iteI (fun c1 => ?_) (fun c1 => iteI (fun c2 => ?_) (fun c2 => iteI (fun c3 => ?_) (fun c3 => ?_)))
          · exact ⟨_, rfl, ⟨rfl, k + 1, by simp, hkl, step ((okB_iff c).2 (.inl (by omega)))⟩, hmeas⟩
          · exact h _
          · exact h _
          · exact ⟨_, rfl, ⟨rfl, k + 1, by simp, hkl, step ((okB_iff c).2 (.inr ⟨by omega, by omega⟩))⟩, hmeas⟩
        · have hkx : k = x.data.toList.length := by omega
          rw [hkx, List.take_length] at hok
          by_cases hx40 : x.size ≤ 40
          case neg =>
            simp (disch := omega) only [↓sxA, ↓wk_store, sxB, sxP, Nat.reduceLeDiff, reduceCtorEq, Nat.reduceEqDiff, Nat.reduceAdd, Int.reduceLT, Int.reduceLE, Int.reduceEq, Nat.reduceLT, Int.reduceToNat, Int.reduceAdd, Int.reduceSub, ↓reduceIte]
            exact h _
          simp (disch := omega) only [↓sxA, ↓wk_store, sxB, sxP, Nat.reduceLeDiff, reduceCtorEq, Nat.reduceEqDiff, Nat.reduceAdd, Int.reduceLT, Int.reduceLE, Int.reduceEq, Nat.reduceLT, Int.reduceToNat, Int.reduceAdd, Int.reduceSub, ↓reduceIte, ↓n2]
          have hW2 : Wr s0 s2 v (lineQ l ++ List.replicate 0 32) := by rw [List.replicate_zero, List.append_nil]; exact hW
          have i2 := idx_bys hb1
          have ld2 := load_bys hb1
          have hmj : ((ws.length : Int) - ((j : Int) + 1)).toNat < ((ws.length : Int) - (j : Int)).toNat := by omega
          by_cases hjb : j < bl.length
          case' pos =>
            rw [if_pos (by omega)]
            have cb := (bl.getD j 0).toNat_lt
            have ld3 : ∀ K : Value → Prop, ropK .load1 [bptr bv (j : Int)] s2 K = K (.int .u8 (bl.getD j 0).toNat) := fun K => by rw [ld2 j K (by omega) (by omega), Int.toNat_natCast]; rfl
            generalize bl.getD j 0 = c at cb ld3
            have hwr : wrapF .i64 (c.toNat : Int) = (c.toNat : Int) := wrap64 _ (by omega) (by omega)
            have htm : ((c.toNat : Int)).tmod 4 = ((c.toNat % 4 : Nat) : Int) := by
              rw [Int.tmod_eq_emod_of_nonneg (by omega)]
              omega
            have hnb : c.toNat % 4 ≤ 3 := by omega
            generalize c.toNat % 4 = nb at htm hnb
            simp (disch := omega) only [↓sxA, ↓wk_store, sxB, sxP, Nat.reduceLeDiff, reduceCtorEq, Nat.reduceEqDiff, Nat.reduceAdd, Int.reduceLT, Int.reduceLE, Int.reduceEq, Nat.reduceLT, Int.reduceToNat, Int.reduceAdd, Int.reduceSub, ↓reduceIte, ↓i2, ↓ld3, q_rem, hwr, htm]
          case' neg =>
            rw [if_neg (by omega)]
            obtain ⟨nb, hnb, hnbe⟩ : ∃ nb : Nat, nb ≤ 3 ∧ (1 : Int) = 1 + (nb : Int) := ⟨0, by omega, by omega⟩
            simp (disch := omega) only [↓sxA, ↓wk_store, sxB, sxP, Nat.reduceLeDiff, reduceCtorEq, Nat.reduceEqDiff, Nat.reduceAdd, Int.reduceLT, Int.reduceLE, Int.reduceEq, Nat.reduceLT, Int.reduceToNat, Int.reduceAdd, Int.reduceSub, ↓reduceIte]
          all_goals
            refine loop_rule [0, 1, 2, 7, 8, 9, 11, 12] (QI3 s0 wv bv t x j nb (lineQ l)) (fun vs _ => match lget vs 7 with
                | .int _ k => ((nb : Int) + 1 - k).toNat
                | _ => 0) ?_ ?_ ?_
            · rfl
            · refine ⟨_, rfl, ⟨0, v, by simp <;> omega, Nat.zero_le _, hW2⟩, ?_⟩
              show ((nb : Int) + 1 - 0).toNat < M
              omega
            · rintro vs s3 ⟨q, v3, rfl, hq, hW3⟩
              show sx _ _ _ _ _ [(0, _), (1, _), (2, _), (7, _), (8, _), (9, _), (11, _), (12, _)] _ _ _ _
              by_cases hqn : q < nb + 1
              · simp (disch := omega) only [↓sxA, ↓wk_store, sxB, sxP, Nat.reduceLeDiff, reduceCtorEq, Nat.reduceEqDiff, Nat.reduceAdd, Int.reduceLT, Int.reduceLE, Int.reduceEq, Nat.reduceLT, Int.reduceToNat, Int.reduceAdd, Int.reduceSub, ↓reduceIte]
                refine hW3.row (m := [32]) rfl (by decide) (by simp; omega) fun v4 s4 hW4 _ _ _ => ?_
                simp (disch := omega) only [↓sxA, ↓wk_store, sxB, sxP, Nat.reduceLeDiff, reduceCtorEq, Nat.reduceEqDiff, Nat.reduceAdd, Int.reduceLT, Int.reduceLE, Int.reduceEq, Nat.reduceLT, Int.reduceToNat, Int.reduceAdd, Int.reduceSub, ↓reduceIte]
                refine ⟨_, rfl, ⟨q + 1, v4, by simp, by omega, ?_⟩, ?_⟩
                · rw [List.append_assoc] at hW4
                  rw [List.replicate_succ']
                  exact hW4
                · show ((nb : Int) + 1 - ((q : Int) + 1)).toNat < ((nb : Int) + 1 - (q : Int)).toNat
                  omega
              · have hqe : q = nb + 1 := by omega
                subst hqe
                have F3 := F1.trans hW3.2.2.2
                simp (disch := omega) only [↓sxA, ↓wk_store, sxB, sxP, Nat.reduceLeDiff, reduceCtorEq, Nat.reduceEqDiff, Nat.reduceAdd, Int.reduceLT, Int.reduceLE, Int.reduceEq, Nat.reduceLT, Int.reduceToNat, Int.reduceAdd, Int.reduceSub, ↓reduceIte]
                refine kBelow 0 (by rfl) (by decide) ?_
                refine kQuote _ x (by omega) fun s5 G5 => ?_
                have hW5 : Wr s0 s5 v3 (lineQ l ++ List.replicate (nb + 1) 32) := ⟨hW3.1.keep fun i hi => G5.old i (by have := hW3.2.2.1; omega), hW3.2.1, by have := hW3.2.2.1; have := G5.nx; omega, hW3.2.2.2.trans G5⟩
                have hql := quoteL_len hok
                have hbz := bs_size (quoteL x.data.toList)
                simp (disch := omega) only [↓sxA, ↓wk_store, sxB, sxP, Nat.reduceLeDiff, reduceCtorEq, Nat.reduceEqDiff, Nat.reduceAdd, Int.reduceLT, Int.reduceLE, Int.reduceEq, Nat.reduceLT, Int.reduceToNat, Int.reduceAdd, Int.reduceSub, ↓reduceIte]
                refine hW5.str (bs (quoteL x.data.toList)) (by simp; omega) fun v6 s6 hW6 _ _ _ => ?_
                simp (disch := omega) only [↓sxA, ↓wk_store, sxB, sxP, Nat.reduceLeDiff, reduceCtorEq, Nat.reduceEqDiff, Nat.reduceAdd, Int.reduceLT, Int.reduceLE, Int.reduceEq, Nat.reduceLT, Int.reduceToNat, Int.reduceAdd, Int.reduceSub, ↓reduceIte]
                have hlq : lineQ (l ++ [(nb, x.data.toList)]) = lineQ l ++ List.replicate (nb + 1) 32 ++ (bs (quoteL x.data.toList)).data.toList := by
                  rw [lineQ_app, bs_list, List.append_assoc]
                  simp [lineQ]
                rw [← hlq] at hW6
                refine ⟨_, rfl, ⟨j + 1, v6, l ++ [(nb, x.data.toList)], by simp, hjl, ?_, fun y hy => ?_, hW6, ?_⟩, hmj⟩
                · rw [List.map_append, hlm, hxs, List.map_append]; rfl
                · rcases List.mem_append.1 hy with hy | hy
                  · exact hlo y hy
                  · simp at hy; rw [hy]; exact hok
                · rw [hlq, bs_list]
                  simp only [List.length_append, List.length_replicate]
                  omega
    · have hje : j = ws.length := by omega
      rw [hje, List.take_length] at hlm
      have hws : ws = l.map fun x => bs x.2 := by
        have := congrArg (List.map bs) hlm
        rw [List.map_map, List.map_map] at this
        rw [show (fun x : Nat × List UInt8 => bs x.2) = bs ∘ (fun x => x.2) from rfl, this]
        conv => lhs; rw [← List.map_id ws]
        exact List.map_congr_left fun q _ => (bs_of q).symm
      have hLb := bs_size (lineQ l)
      have nv := fun K => len_bys (hW.1.bys) K
      have rs := fun K => rk_str (K := K) hW.1
      have hw1 : Cel s1 wv (ws.map Value.string) := hw.keep fun i hi => F.old i (by omega)
      by_cases hL : (lineQ l).length ≤ 1000
      case' pos =>
        have hwsr : WsR (bs (lineQ l)).data.toList 0 (some (l.map fun x => (x.2, isQ x.2))) := by
          rw [bs_list]
          exact lineQ_ws l 0 (Nat.zero_le _) hlo rfl
        have hWO := WO.of_some (s := bs (lineQ l)) (by omega) hwsr
        simp (disch := omega) only [↓sxA, ↓wk_store, sxB, sxP, Nat.reduceLeDiff, reduceCtorEq, Nat.reduceEqDiff, Nat.reduceAdd, Int.reduceLT, Int.reduceLE, Int.reduceEq, Nat.reduceLT, Int.reduceToNat, Int.reduceAdd, Int.reduceSub, ↓reduceIte, ↓n1, ↓nv, ↓rs]
        refine kWords 0 (bs (lineQ l)) (F.max h0 hm) fun lw e v2 u2 s3 hWO2 hv2 hu2 ho2 G3 => ?_
        obtain ⟨rfl, rfl⟩ := hWO.unique hWO2
        have hw3 : Cel s3 wv (ws.map Value.string) := hw1.keep fun i hi => G3.old i (by have := F.nx; omega)
        have hv3 : Cel s3 v2 (ws.map Value.string) := by
          rw [hws]
          have : wsS (l.map fun x => (x.2, isQ x.2)) = (l.map fun x => bs x.2).map Value.string := by simp [wsS, List.map_map, Function.comp_def]
          rw [← this]
          exact hv2
        simp (disch := omega) only [↓sxA, ↓wk_store, sxB, sxP, Nat.reduceLeDiff, reduceCtorEq, Nat.reduceEqDiff, Nat.reduceAdd, Int.reduceLT, Int.reduceLE, Int.reduceEq, Nat.reduceLT, Int.reduceToNat, Int.reduceAdd, Int.reduceSub, ↓reduceIte]
        refine kBelow 0 (by rfl) (by decide) ?_
        refine kEqStrs _ hv3 hw3 (by omega) ?_
        simp (disch := omega) only [↓sxA, ↓wk_store, sxB, sxP, Nat.reduceLeDiff, reduceCtorEq, Nat.reduceEqDiff, Nat.reduceAdd, Int.reduceLT, Int.reduceLE, Int.reduceEq, Nat.reduceLT, Int.reduceToNat, Int.reduceAdd, Int.reduceSub, ↓reduceIte]
        have Fz := F.trans G3
      case' neg =>
        simp (disch := omega) only [↓sxA, ↓wk_store, sxB, sxP, Nat.reduceLeDiff, reduceCtorEq, Nat.reduceEqDiff, Nat.reduceAdd, Int.reduceLT, Int.reduceLE, Int.reduceEq, Nat.reduceLT, Int.reduceToNat, Int.reduceAdd, Int.reduceSub, ↓reduceIte, ↓n1, ↓nv]
        have Fz := F
        obtain ⟨s3, hs3⟩ : ∃ s3, s3 = s1 := ⟨_, rfl⟩
        rw [← hs3] at Fz ⊢
      all_goals
        refine kBelow 0 (by rfl) (by decide) ?_
        refine kUsage _ t (by omega) (Nat.lt_of_lt_of_le h0 Fz.nx) (Fz.max h0 hm) fun li e4 s4 hT F4 => ?_
        have Fa := Fz.trans F4
        by_cases he : e4 = 0
        case neg =>
          have he' : (e4 = 0) = False := eq_false he
          simp (disch := omega) only [↓sxA, ↓wk_store, sxB, sxP, Nat.reduceLeDiff, reduceCtorEq, Nat.reduceEqDiff, Nat.reduceAdd, Int.reduceLT, Int.reduceLE, Int.reduceEq, Nat.reduceLT, Int.reduceToNat, Int.reduceAdd, Int.reduceSub, ↓reduceIte, he']
          refine kBelow 0 (by rfl) (by decide) ?_
          refine kAwake _ (Fa.max h0 hm) ?_
          simp (disch := omega) only [↓sxA, ↓wk_store, sxB, sxP, Nat.reduceLeDiff, reduceCtorEq, Nat.reduceEqDiff, Nat.reduceAdd, Int.reduceLT, Int.reduceLE, Int.reduceEq, Nat.reduceLT, Int.reduceToNat, Int.reduceAdd, Int.reduceSub, ↓reduceIte]
          exact h _
        subst he
        have hTu := tm_again hT
        have hul := usText_len hT
        have hub := bs_size (usText li)
        obtain ⟨_, _, hbd⟩ := tm_bounds hT
        simp (disch := omega) only [↓sxA, ↓wk_store, sxB, sxP, Nat.reduceLeDiff, reduceCtorEq, Nat.reduceEqDiff, Nat.reduceAdd, Int.reduceLT, Int.reduceLE, Int.reduceEq, Nat.reduceLT, Int.reduceToNat, Int.reduceAdd, Int.reduceSub, ↓reduceIte]
        refine kBelow 0 (by rfl) (by decide) ?_
        refine kTemplate _ t (by omega) (Nat.lt_of_lt_of_le h0 Fa.nx) (Fa.max h0 hm) fun l5 e5 va s5 hT5 hR5 F5 => ?_
        obtain ⟨rfl, rfl⟩ := hT.unique hT5
        have Fb := Fa.trans F5
        simp (disch := omega) only [↓sxA, ↓wk_store, sxB, sxP, Nat.reduceLeDiff, reduceCtorEq, Nat.reduceEqDiff, Nat.reduceAdd, Int.reduceLT, Int.reduceLE, Int.reduceEq, Nat.reduceLT, Int.reduceToNat, Int.reduceAdd, Int.reduceSub, ↓reduceIte]
        refine kBelow 0 (by rfl) (by decide) ?_
        refine kTemplate _ (bs (usText li)) (by omega) (Nat.lt_of_lt_of_le h0 Fb.nx) (Fb.max h0 hm) fun l6 e6 vb s6 hT6 hR6 F6 => ?_
        obtain ⟨rfl, rfl⟩ := hTu.unique hT6
        have Fc := Fb.trans F6
        simp (disch := omega) only [↓sxA, ↓wk_store, sxB, sxP, Nat.reduceLeDiff, reduceCtorEq, Nat.reduceEqDiff, Nat.reduceAdd, Int.reduceLT, Int.reduceLE, Int.reduceEq, Nat.reduceLT, Int.reduceToNat, Int.reduceAdd, Int.reduceSub, ↓reduceIte]
        refine kBelow 0 (by rfl) (by decide) ?_
        refine kUsage _ (bs (usText li)) (by omega) (Nat.lt_of_lt_of_le h0 Fc.nx) (Fc.max h0 hm) fun l7 e7 s7 hT7 F7 => ?_
        obtain ⟨rfl, rfl⟩ := hTu.unique hT7
        have Fd := Fc.trans F7
        have hRa := hR5.keep (st' := s7) (F6.trans F7).nx fun i _ hi => (F6.trans F7).old i hi
        have hRb := hR6.keep (st' := s7) F7.nx fun i _ hi => F7.old i hi
        have la := hRa.len
        have lb := hRb.len
        simp (disch := omega) only [↓sxA, ↓wk_store, sxB, sxP, Nat.reduceLeDiff, reduceCtorEq, Nat.reduceEqDiff, Nat.reduceAdd, Int.reduceLT, Int.reduceLE, Int.reduceEq, Nat.reduceLT, Int.reduceToNat, Int.reduceAdd, Int.reduceSub, ↓reduceIte, ↓la, ↓lb]
        refine loop_rule [18, 20, 24] (fun vs s => ∃ j : Nat, vs = [va, vb, .int .i64 (j : Nat)] ∧ j ≤ li.length ∧ Frm s7 s) (fun vs _ => match lget vs 2 with
            | .int _ k => ((li.length : Int) - k).toNat
            | _ => 0) ?_ ?_ ?_
        · rfl
        · refine ⟨_, rfl, ⟨0, rfl, Nat.zero_le _, Frm.refl _⟩, ?_⟩
          show ((li.length : Int) - 0).toNat < M
          have := (tm_bounds hT).1
          omega
        · rintro vs s ⟨j', rfl, hj', Fx⟩
          show sx _ _ _ _ _ [(18, _), (20, _), (24, _)] _ _ _ _
          by_cases hjl' : j' < li.length
          · obtain ⟨b1, nv1, a1, a2, a3, a4, a5, a6, a7⟩ := (hRa.keep (st' := s) Fx.nx fun i _ hi => Fx.old i hi).at hjl'
            obtain ⟨b2, nv2, c1, c2, c3, c4, c5, c6, c7⟩ := (hRb.keep (st' := s) Fx.nx fun i _ hi => Fx.old i hi).at hjl'
            obtain ⟨d1, d2, d3⟩ := hbd _ (List.getElem_mem hjl')
            have r0 := c3 0 _ rfl
            have r1 := c3 1 _ rfl
            have r2 := c3 2 _ rfl
            have r3 := c3 3 _ rfl
            have r4 := c3 4 _ rfl
            have r5 := c3 5 _ rfl
            have r6 := c3 6 _ rfl
            have hone := one_cells c5
            simp (disch := omega) only [↓sxA, ↓wk_store, sxB, sxP, Nat.reduceLeDiff, reduceCtorEq, Nat.reduceEqDiff, Nat.reduceAdd, Int.reduceLT, Int.reduceLE, Int.reduceEq, Nat.reduceLT, Int.reduceToNat, Int.reduceAdd, Int.reduceSub, ↓reduceIte, ↓la, ↓a1, ↓a2, ↓c1, ↓r0, ↓r1, ↓r2, ↓r3, ↓r4, ↓r5, ↓r6, hone, c5]
            refine kBelow 0 (by rfl) (by decide) ?_
            refine kSame _ a4 c4 a7 c7 (by omega) a5 c5 fun s9 n9 f9 => ?_
            simp (disch := omega) only [↓sxA, ↓wk_store, sxB, sxP, Nat.reduceLeDiff, reduceCtorEq, Nat.reduceEqDiff, Nat.reduceAdd, Int.reduceLT, Int.reduceLE, Int.reduceEq, Nat.reduceLT, Int.reduceToNat, Int.reduceAdd, Int.reduceSub, ↓reduceIte]
            refine ⟨_, rfl, ⟨j' + 1, rfl, hjl', Fx.trans ⟨n9, f9⟩⟩, ?_⟩
            show ((li.length : Int) - ((j' : Int) + 1)).toNat < ((li.length : Int) - (j' : Int)).toNat
            omega
          · have Fy := Fd.trans Fx
            simp (disch := omega) only [↓sxA, ↓wk_store, sxB, sxP, Nat.reduceLeDiff, reduceCtorEq, Nat.reduceEqDiff, Nat.reduceAdd, Int.reduceLT, Int.reduceLE, Int.reduceEq, Nat.reduceLT, Int.reduceToNat, Int.reduceAdd, Int.reduceSub, ↓reduceIte, ↓la]
            refine kBelow 0 (by rfl) (by decide) ?_
            refine kAwake _ (Fy.max h0 hm) ?_
            simp (disch := omega) only [↓sxA, ↓wk_store, sxB, sxP, Nat.reduceLeDiff, reduceCtorEq, Nat.reduceEqDiff, Nat.reduceAdd, Int.reduceLT, Int.reduceLE, Int.reduceEq, Nat.reduceLT, Int.reduceToNat, Int.reduceAdd, Int.reduceSub, ↓reduceIte]
            exact h _
end
end Go.Proofs.YtdmemibnphcedaaGreatDoor
