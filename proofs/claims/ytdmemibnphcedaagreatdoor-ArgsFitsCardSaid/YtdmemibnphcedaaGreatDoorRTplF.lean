/-
  An item as the chapter reads it.
-/
import Derived.Test.YtdmemibnphcedaaGreatDoorRTplE
set_option linter.unusedSimpArgs false
set_option linter.unusedVariables false
set_option maxRecDepth 10000
set_option linter.unusedSectionVars false
namespace Go.Proofs.YtdmemibnphcedaaGreatDoor
open Go.Am
attribute [local irreducible] callO wopK ropK popK opK grpsE listE sx Runs

/-- while the names are looked at -/
def ItA (st : St) (s4 : St) (v4 : Value) (b5 : Nat) (ns : List ByteArray) (vs : List Value) (s : St) : Prop :=
  s = s4 ∧ ∃ j : Nat, j ≤ ns.length ∧ vs = [.pointer (some ⟨st.next, 0, none⟩), v4, .pointer (some ⟨b5, 0, none⟩), .int .i64 j] ∧ ∀ i, i < j → isNm (ns.getD i .empty) = true

/-- the marks so far -/
def ItB (st : St) (s4 : St) (v4 nv : Value) (b5 : Nat) (t : List ByteArray) (vs : List Value) (s : St) : Prop :=
  ∃ (x : Mk) (j : Nat), j ≤ t.length ∧ vs = [.pointer (some ⟨st.next, 0, none⟩), v4, .pointer (some ⟨b5, 0, none⟩), .int .i64 ((j + 1 : Nat) : Int)] ∧ marksA t Mk.none = marksA (t.drop j) x ∧
    s.get b5 = some (.row (itCells nv x) 0 false) ∧ s.next = s4.next ∧ (∀ i, i ≠ b5 → s.get i = s4.get i) ∧ (∀ i, i < 6 → (x.bit i = true ↔ lt i ∈ t.take j)) ∧ ∀ p ∈ t.take j, ∃ i, i < 6 ∧ p = lt i

theorem bit_put (x : Mk) (i : Nat) (hi : i < 6) : (x.put i).bit i = true := by
  match i, hi with
  | 0, _ | 1, _ | 2, _ | 3, _ | 4, _ | 5, _ => rfl
theorem bit_put_ne (x : Mk) (i j : Nat) (hi : i < 6) (hj : j < 6) (h : i ≠ j) : (x.put i).bit j = x.bit j := by
  have : ∀ i j : Fin 6, i ≠ j → ∀ a k s n m f : Bool, ((Mk.mk a k s n m f).put i.val).bit j.val = (Mk.mk a k s n m f).bit j.val := by decide +kernel
  obtain ⟨a, k, s, n, m, f⟩ := x
  exact this ⟨i, hi⟩ ⟨j, hj⟩ (fun e => h (congrArg Fin.val e)) a k s n m f
theorem it7 {nv : Value} (h : oneCell nv = true) (x : Mk) : (itCells nv x).all oneCell = true := by
  show (oneCell nv && _) = true
  rw [h]
  rfl
theorem lt_inj {i j : Nat} (hi : i < 6) (hj : j < 6) (h : lt i = lt j) : i = j := by
  have : ∀ i j : Fin 6, (lt i.val).data.toList = (lt j.val).data.toList → i = j := by decide +kernel
  have := this ⟨i, hi⟩ ⟨j, hj⟩ (by rw [h])
  simpa using congrArg Fin.val this

section
variable {st : St} {K : Value → St → Prop}

set_option maxHeartbeats 8000000 in
theorem kItemR (n : Nat) (s : ByteArray) (hs : s.size < 80000)
    (hbad : itemA s = Option.none → ∀ l : List Value, l.length = 7 → l.all oneCell = true → ∀ st', Frm st st' → K (.tuple #[.agg l.toArray, .bool false]) st')
    (hok : ∀ x, itemA s = some x → ∀ nv st', Frm st st' → Cel st' nv (x.names.map Value.string) → oneCell nv = true → (ow nv = 0 ∨ st.next + 1 ≤ ow nv) → ow nv ≤ st'.next → K (.tuple #[.agg (itCells nv x.mks).toArray, .bool true]) st') :
    callK (callO T0 orc fns 100000 (n + 2)) 40 [.string s] st K := by
  refine fn_runs (fn := g40) ?_ ?_ ?_
  · rfl
  · rfl
  unfold g40
  obtain ⟨h, t, hp⟩ : ∃ h t, pieces 47 s = h :: t := by
    cases hc : pieces 47 s with
    | nil => exact (pieces_ne 47 s hc).elim
    | cons h t => exact ⟨h, t, rfl⟩
  have hit : itemA s = match marksA t Mk.none with
    | some x => if (pieces 61 h).all isNm && x.fit then some ⟨pieces 61 h, x⟩ else Option.none
    | Option.none => Option.none := by unfold itemA; rw [hp]; rfl
  have hlen : (pieces 47 s).length ≤ s.size + 1 := pieces_length 47 s
  have hhs : h.size ≤ s.size := pieces_size (c := 47) (by rw [hp]; simp)
  rw [hp] at hlen
  simp only [List.length_cons] at hlen
  have F1 := Frm.new st (.row zero7 0 false)
  have hn1 : (st.new (.row zero7 0 false)).next = st.next + 1 := rfl
  simp (disch := omega) only [↓sxA, ↓wk_store, sxB, sxP, Nat.reduceLeDiff, reduceCtorEq, Nat.reduceEqDiff, Nat.reduceAdd, Int.reduceLT, Int.reduceLE, Int.reduceEq, Nat.reduceLT, Int.reduceToNat, Int.reduceAdd, Int.reduceSub, ↓reduceIte]
  refine kSplitR n s 47 (by omega) fun v4 s2 r2 o2 on2 n2 f2 => ?_
  have n2' : st.next + 1 ≤ s2.next := n2
  have F2 : Frm st s2 := F1.trans ⟨n2, f2⟩
  have o2' : ow v4 = 0 ∨ st.next + 2 ≤ ow v4 := o2
  have hbox2 : s2.get st.next = some (.row zero7 0 false) := (f2 _ (Nat.lt_succ_self _)).trans (get_new_same _ _)
  rw [hp] at r2
  have ix := idx_cel r2.cel .i64 (0 : Int)
  have ld := load_cel r2.cel (0 : Int)
  simp only [List.map_cons, List.length_cons, List.length_map] at ix ld
  simp (disch := omega) only [↓sxA, ↓wk_store, sxB, sxP, Nat.reduceLeDiff, reduceCtorEq, Nat.reduceEqDiff, Nat.reduceAdd, Int.reduceLT, Int.reduceLE, Int.reduceEq, Nat.reduceLT, Int.reduceToNat, Int.reduceAdd, Int.reduceSub, ↓reduceIte, ↓ix, ↓ld, List.getD_cons_zero]
  refine kSplitR n h 61 (by omega) fun nv s3 r3 o3 on3 n3 f3 => ?_
  have F3 : Frm st s3 := F2.trans ⟨n3, f3⟩
  have hbox3 : s3.get st.next = some (.row zero7 0 false) := (f3 _ (by omega)).trans hbox2
  have r23 := r2.keep (st' := s3) fun i hi => f3 i (by omega)
  have nv1 : oneCell nv = true := by obtain ⟨b, cap, g, ro, e, _⟩ := r3; rw [e]; rfl
  have nvc : cellsOf nv = [nv] := by obtain ⟨b, cap, g, ro, e, _⟩ := r3; rw [e]; rfl
  simp (disch := omega) only [↓sxA, ↓wk_store, sxB, sxP, Nat.reduceLeDiff, reduceCtorEq, Nat.reduceEqDiff, Nat.reduceAdd, Int.reduceLT, Int.reduceLE, Int.reduceEq, Nat.reduceLT, Int.reduceToNat, Int.reduceAdd, Int.reduceSub, ↓reduceIte, nvc, nv1]
  obtain ⟨s4, hs4⟩ : ∃ s4, s4 = (s3.new (.row zero7 0 false)).put s3.next (some (.row (itCells nv Mk.none) 0 false)) := ⟨_, rfl⟩
  have f4 : ∀ i, i < s3.next → s4.get i = s3.get i := fun i hi => by rw [hs4, get_put_ne _ _ _ _ (by omega), get_new_ne _ _ _ (by omega)]
  have n4 : s4.next = s3.next + 1 := by rw [hs4]; rfl
  have F4 : Frm st s4 := F3.trans ⟨by omega, f4⟩
  have hbox4 : s4.get st.next = some (.row zero7 0 false) := (f4 _ (by omega)).trans hbox3
  have hb5 : s4.get s3.next = some (.row (itCells nv Mk.none) 0 false) := by rw [hs4]; exact get_put_same _ _ _
  have hnl : s3.next ≠ st.next := by omega
  have c4 : Cel s4 nv ((pieces 61 h).map Value.string) := r3.cel.keep fun i hi => f4 i (by omega)
  have r24 := r23.keep (st' := s4) fun i hi => f4 i (by omega)
  have l4 := len_cel c4
  rw [List.length_map] at l4
  have hpl := pieces_length 61 h
  refine loop_rule [2, 4, 5, 6] (ItA st s4 v4 s3.next (pieces 61 h)) (fun vs _ => match lget vs 3 with
      | .int _ k => (((pieces 61 h).length : Int) - k).toNat
      | _ => 0) ?_ ?_ ?_
  · rfl
  · refine ⟨_, rfl, ⟨hs4.symm, 0, Nat.zero_le _, rfl, fun i hi => by omega⟩, ?_⟩
    show (((pieces 61 h).length : Int) - 0).toNat < 100000
    omega
  · rintro vs s1 ⟨rfl, j, hj, rfl, hnm⟩
    show sx _ _ _ _ _ [(2, _), (4, _), (5, _), (6, _)] _ _ _ _
    have ld5 : ∀ K : Value → Prop, ropK .load1 [.pointer (some ⟨s3.next, 0, none⟩)] s1 K = K nv := fun K => by rw [rk_load1, hb5]; rfl
    have all5 := rk_loadAll (k := 7) hb5 rfl (by decide)
    by_cases hjn : j < (pieces 61 h).length
    · have ix5 := idx_cel c4 .i64 (j : Int)
      rw [List.length_map] at ix5
      have ldj : ∀ K : Value → Prop, ropK .load1 [bptr nv (j : Int)] s1 K = K (.string ((pieces 61 h).getD j .empty)) := fun K => by
        rw [load_cel c4 (j : Int) K (by omega) (by rw [List.length_map]; omega), Int.toNat_natCast, getD_str _ j hjn]
      have hm : (pieces 61 h).getD j .empty ∈ pieces 61 h := by rw [List.getD_eq_getElem?_getD, List.getElem?_eq_getElem hjn, Option.getD_some]; exact List.getElem_mem hjn
      have hsz := pieces_size hm
      simp (disch := omega) only [↓sxA, ↓wk_store, sxB, sxP, Nat.reduceLeDiff, reduceCtorEq, Nat.reduceEqDiff, Nat.reduceAdd, Int.reduceLT, Int.reduceLE, Int.reduceEq, Nat.reduceLT, Int.reduceToNat, Int.reduceAdd, Int.reduceSub, ↓reduceIte, ↓ld5, ↓l4, ↓ix5, ↓ldj]
      refine kIsName n _ (by omega) ?_
      cases hc : isNm ((pieces 61 h).getD j .empty) with
      | true =>
        simp (disch := omega) only [↓sxA, ↓wk_store, sxB, sxP, Nat.reduceLeDiff, reduceCtorEq, Nat.reduceEqDiff, Nat.reduceAdd, Int.reduceLT, Int.reduceLE, Int.reduceEq, Nat.reduceLT, Int.reduceToNat, Int.reduceAdd, Int.reduceSub, ↓reduceIte]
        refine ⟨_, rfl, ⟨rfl, j + 1, hjn, rfl, fun i hi => ?_⟩, ?_⟩
        · by_cases e : i = j
          · rw [e]; exact hc
          · exact hnm i (by omega)
        · show (((pieces 61 h).length : Int) - ((j : Int) + 1)).toNat < (((pieces 61 h).length : Int) - j).toNat
          omega
      | false =>
        have hall : (pieces 61 h).all isNm = false := List.all_eq_false.2 ⟨_, hm, by rw [hc]; simp⟩
        have hb : itemA s = Option.none := by
          rw [hit]
          cases marksA t Mk.none with
          | none => rfl
          | some x => simp only [hall, Bool.false_and, Bool.false_eq_true, if_false]
        have st7 := fun W => wk_storeK (W := W) hbox4 (o := 0) (k := 7) (xs := itCells nv Mk.none) (by decide) rfl (it7 nv1 _)
        simp (disch := omega) only [↓sxA, ↓wk_store, sxB, sxP, Nat.reduceLeDiff, reduceCtorEq, Nat.reduceEqDiff, Nat.reduceAdd, Int.reduceLT, Int.reduceLE, Int.reduceEq, Nat.reduceLT, Int.reduceToNat, Int.reduceAdd, Int.reduceSub, ↓reduceIte, ↓all5, ↓st7]
        rw [resP_k1]
        simp (disch := omega) only [↓sxA, ↓wk_store, sxB, sxP, Nat.reduceLeDiff, reduceCtorEq, Nat.reduceEqDiff, Nat.reduceAdd, Int.reduceLT, Int.reduceLE, Int.reduceEq, Nat.reduceLT, Int.reduceToNat, Int.reduceAdd, Int.reduceSub, ↓reduceIte]
        refine (rk_loadAll (k := 7) (get_put_same _ _ _) rfl (by decide) _).mpr ?_
        simp (disch := omega) only [↓sxA, ↓wk_store, sxB, sxP, Nat.reduceLeDiff, reduceCtorEq, Nat.reduceEqDiff, Nat.reduceAdd, Int.reduceLT, Int.reduceLE, Int.reduceEq, Nat.reduceLT, Int.reduceToNat, Int.reduceAdd, Int.reduceSub, ↓reduceIte]
        exact hbad hb _ rfl (it7 nv1 _) _ (F4.put _ (Nat.le_refl _) _)
    · have hall : (pieces 61 h).all isNm = true := by
        rw [List.all_eq_true]
        intro y hm
        obtain ⟨i, hi, rfl⟩ := List.getElem_of_mem hm
        have := hnm i (by omega)
        rw [List.getD_eq_getElem?_getD, List.getElem?_eq_getElem hi, Option.getD_some] at this
        exact this
      simp only [hall, Bool.true_and] at hit
      simp (disch := omega) only [↓sxA, ↓wk_store, sxB, sxP, Nat.reduceLeDiff, reduceCtorEq, Nat.reduceEqDiff, Nat.reduceAdd, Int.reduceLT, Int.reduceLE, Int.reduceEq, Nat.reduceLT, Int.reduceToNat, Int.reduceAdd, Int.reduceSub, ↓reduceIte, ↓ld5, ↓l4]
      have l24 := len_cel r24.cel
      simp only [List.map_cons, List.length_cons, List.length_map] at l24
      refine loop_rule [2, 4, 5, 7] (ItB st s1 v4 nv s3.next t) (fun vs _ => match lget vs 3 with
          | .int _ k => ((t.length : Int) + 1 - k).toNat
          | _ => 0) ?_ ?_ ?_
      · rfl
      · refine ⟨_, rfl, ⟨Mk.none, 0, Nat.zero_le _, rfl, rfl, hb5, rfl, fun _ _ => rfl, fun i hi => ?_, fun p hp => by simp at hp⟩, ?_⟩
        · constructor
          · intro hh
            have : (Mk.none).bit i = false := by
              match i, hi with
              | 0, _ | 1, _ | 2, _ | 3, _ | 4, _ | 5, _ => rfl
            rw [this] at hh; cases hh
          · intro hh; simp at hh
        · show ((t.length : Int) + 1 - 1).toNat < 100000
          omega
      · clear hnm hj hjn hb5 ld5 all5
        rintro vs s5 ⟨x, j, hj, rfl, hmk, hb5, n5, f5, hbits, hpre⟩
        show sx _ _ _ _ _ [(2, _), (4, _), (5, _), (7, _)] _ _ _ _
        have r25 := r24.keep (st' := s5) fun i hi => f5 i (by omega)
        have hbox5 : s5.get st.next = some (.row zero7 0 false) := (f5 _ (by omega)).trans hbox4
        have F5 : Frm st s5 := ⟨by have := F4.nx; omega, fun i hi => (f5 i (by omega)).trans (F4.old i hi)⟩
        have all5 := rk_loadAll (k := 7) hb5 rfl (by decide)
        have st7 := fun W => wk_storeK (W := W) hbox5 (o := 0) (k := 7) (xs := itCells nv x) (by decide) rfl (it7 nv1 _)
        have endBad : itemA s = Option.none → K (.tuple #[.agg (lputs zero7 0 (itCells nv x)).toArray, .bool false]) (s5.put st.next (some (.row (lputs zero7 0 (itCells nv x)) 0 false))) := fun hb => hbad hb _ rfl (it7 nv1 _) _ (F5.put _ (Nat.le_refl _) _)
        by_cases hjt : j < t.length
        · have hpm : t.getD j .empty ∈ t := by rw [List.getD_eq_getElem?_getD, List.getElem?_eq_getElem hjt, Option.getD_some]; exact List.getElem_mem hjt
          have hdrop : t.drop j = t.getD j .empty :: t.drop (j + 1) := by rw [List.drop_eq_getElem_cons hjt, List.getD_eq_getElem?_getD, List.getElem?_eq_getElem hjt, Option.getD_some]
          have htake : t.take (j + 1) = t.take j ++ [t.getD j .empty] := by rw [List.take_add_one, List.getElem?_eq_getElem hjt, List.getD_eq_getElem?_getD, List.getElem?_eq_getElem hjt]; rfl
          have ixj := idx_cel r25.cel .i64 ((j + 1 : Nat) : Int)
          simp only [List.map_cons, List.length_cons, List.length_map] at ixj
          have ldj : ∀ K : Value → Prop, ropK .load1 [bptr v4 ((j + 1 : Nat) : Int)] s5 K = K (.string (t.getD j .empty)) := fun K => by
            rw [load_cel r25.cel ((j + 1 : Nat) : Int) K (by omega) (by simp only [List.map_cons, List.length_cons, List.length_map]; omega), Int.toNat_natCast]
            show K ((t.map Value.string).getD j undef) = _
            rw [getD_str _ j hjt]
          have sm := fun K => slmid_row1 r25 .i64 .i64 ((j + 1 : Nat) : Int) K (by omega) (by simp only [List.map_cons, List.length_cons, List.length_map]; omega)
          rw [Int.toNat_natCast] at sm
          have cm : Cel s5 (bmid v4 (j + 1)) ((t.take j).map Value.string) := by
            have := slmid_cel1 r25 (j + 1) (by omega) (by simp only [List.map_cons, List.length_cons, List.length_map]; omega)
            simpa [List.map_take] using this
          rw [hdrop] at hmk
          generalize t.getD j .empty = p at hmk hpm hdrop htake ldj
          have bad : x.add p = Option.none → itemA s = Option.none := fun ha => by
            rw [hit, hmk]; simp only [marksA, ha]
          simp (disch := omega) only [↓sxA, ↓wk_store, sxB, sxP, Nat.reduceLeDiff, reduceCtorEq, Nat.reduceEqDiff, Nat.reduceAdd, Int.reduceLT, Int.reduceLE, Int.reduceEq, Nat.reduceLT, Int.reduceToNat, Int.reduceAdd, Int.reduceSub, ↓reduceIte, ↓l24, ↓sm, ↓ixj, ↓ldj]
          refine kHas n cm (by rw [List.length_take]; omega) (fun hin r hr => ?_) (fun hnin => ?_)
          · obtain ⟨i, hi, rfl⟩ := hpre p hin
            have hb := bad (by rw [add_lt x i hi, (hbits i hi).2 hin]; rfl)
            simp (disch := omega) only [↓sxA, ↓wk_store, sxB, sxP, Nat.reduceLeDiff, reduceCtorEq, Nat.reduceEqDiff, Nat.reduceAdd, Int.reduceLT, Int.reduceLE, Int.reduceEq, Nat.reduceLT, Int.reduceToNat, Int.reduceAdd, Int.reduceSub, ↓reduceIte, ↓all5, ↓st7]
            rw [resP_k1]
            simp (disch := omega) only [↓sxA, ↓wk_store, sxB, sxP, Nat.reduceLeDiff, reduceCtorEq, Nat.reduceEqDiff, Nat.reduceAdd, Int.reduceLT, Int.reduceLE, Int.reduceEq, Nat.reduceLT, Int.reduceToNat, Int.reduceAdd, Int.reduceSub, ↓reduceIte]
            refine (rk_loadAll (k := 7) (get_put_same _ _ _) rfl (by decide) _).mpr ?_
            simp (disch := omega) only [↓sxA, ↓wk_store, sxB, sxP, Nat.reduceLeDiff, reduceCtorEq, Nat.reduceEqDiff, Nat.reduceAdd, Int.reduceLT, Int.reduceLE, Int.reduceEq, Nat.reduceLT, Int.reduceToNat, Int.reduceAdd, Int.reduceSub, ↓reduceIte]
            exact endBad hb
          · by_cases hlt : ∃ i, i < 6 ∧ p = lt i
            · obtain ⟨i, hi, rfl⟩ := hlt
              have hbf : x.bit i = false := by
                cases hh : x.bit i with
                | false => rfl
                | true => exact (hnin ((hbits i hi).1 hh)).elim
              have ha : x.add (lt i) = some (x.put i) := by rw [add_lt x i hi, hbf]; rfl
              -- the next round
              have next : ∀ s6, s6.get s3.next = some (.row (itCells nv (x.put i)) 0 false) → s6.next = s5.next → (∀ k, k ≠ s3.next → s6.get k = s5.get k) → ItB st s1 v4 nv s3.next t [.pointer (some ⟨st.next, 0, none⟩), v4, .pointer (some ⟨s3.next, 0, none⟩), .int .i64 (((j + 1 : Nat) : Int) + 1)] s6 := fun s6 g1 g2 g3 => by
                refine ⟨x.put i, j + 1, hjt, rfl, ?_, g1, g2.trans n5, fun k hk => (g3 k hk).trans (f5 k hk), fun k hk => ?_, fun q hq => ?_⟩
                · rw [hmk]; simp only [marksA, ha]
                · rw [htake, List.mem_append, List.mem_singleton]
                  by_cases e : i = k
                  · subst e; simp [bit_put x i hi]
                  · rw [bit_put_ne x i k hi hk e, hbits k hk]
                    constructor
                    · exact .inl
                    · rintro (h | h)
                      · exact h
                      · exact (e (lt_inj hi hk h.symm)).elim
                · rw [htake, List.mem_append, List.mem_singleton] at hq
                  rcases hq with hq | hq
                  · exact hpre q hq
                  · exact ⟨i, hi, hq⟩
              have hmeas : ((t.length : Int) + 1 - (((j + 1 : Nat) : Int) + 1)).toNat < ((t.length : Int) + 1 - ((j + 1 : Nat) : Int)).toNat := by omega
              have hb5' := hb5
              unfold itCells at hb5'
              have hi6 : i = 0 ∨ i = 1 ∨ i = 2 ∨ i = 3 ∨ i = 4 ∨ i = 5 := by omega
              rcases hi6 with rfl | rfl | rfl | rfl | rfl | rfl
              ·
                simp (disch := omega) only [↓sxA, ↓wk_store, sxB, sxP, Nat.reduceLeDiff, reduceCtorEq, Nat.reduceEqDiff, Nat.reduceAdd, Int.reduceLT, Int.reduceLE, Int.reduceEq, Nat.reduceLT, Int.reduceToNat, Int.reduceAdd, Int.reduceSub, ↓reduceIte, ↓ixj, ↓ldj, (eq_true rfl : (lt 0 = ⟨#[97]⟩) = True), hb5']
                exact ⟨_, rfl, next _ (get_put_same _ _ _) rfl (fun k hk => get_put_ne _ _ _ _ (Ne.symm hk)), hmeas⟩
              ·
                simp (disch := omega) only [↓sxA, ↓wk_store, sxB, sxP, Nat.reduceLeDiff, reduceCtorEq, Nat.reduceEqDiff, Nat.reduceAdd, Int.reduceLT, Int.reduceLE, Int.reduceEq, Nat.reduceLT, Int.reduceToNat, Int.reduceAdd, Int.reduceSub, ↓reduceIte, ↓ixj, ↓ldj, (eq_false (by decide) : (lt 1 = ⟨#[97]⟩) = False), (eq_true rfl : (lt 1 = ⟨#[107]⟩) = True), hb5']
                exact ⟨_, rfl, next _ (get_put_same _ _ _) rfl (fun k hk => get_put_ne _ _ _ _ (Ne.symm hk)), hmeas⟩
              ·
                simp (disch := omega) only [↓sxA, ↓wk_store, sxB, sxP, Nat.reduceLeDiff, reduceCtorEq, Nat.reduceEqDiff, Nat.reduceAdd, Int.reduceLT, Int.reduceLE, Int.reduceEq, Nat.reduceLT, Int.reduceToNat, Int.reduceAdd, Int.reduceSub, ↓reduceIte, ↓ixj, ↓ldj, (eq_false (by decide) : (lt 2 = ⟨#[97]⟩) = False), (eq_false (by decide) : (lt 2 = ⟨#[107]⟩) = False), (eq_true rfl : (lt 2 = ⟨#[115]⟩) = True), hb5']
                exact ⟨_, rfl, next _ (get_put_same _ _ _) rfl (fun k hk => get_put_ne _ _ _ _ (Ne.symm hk)), hmeas⟩
              ·
                simp (disch := omega) only [↓sxA, ↓wk_store, sxB, sxP, Nat.reduceLeDiff, reduceCtorEq, Nat.reduceEqDiff, Nat.reduceAdd, Int.reduceLT, Int.reduceLE, Int.reduceEq, Nat.reduceLT, Int.reduceToNat, Int.reduceAdd, Int.reduceSub, ↓reduceIte, ↓ixj, ↓ldj, (eq_false (by decide) : (lt 3 = ⟨#[97]⟩) = False), (eq_false (by decide) : (lt 3 = ⟨#[107]⟩) = False), (eq_false (by decide) : (lt 3 = ⟨#[115]⟩) = False), (eq_true rfl : (lt 3 = ⟨#[110]⟩) = True), hb5']
                exact ⟨_, rfl, next _ (get_put_same _ _ _) rfl (fun k hk => get_put_ne _ _ _ _ (Ne.symm hk)), hmeas⟩
              ·
                simp (disch := omega) only [↓sxA, ↓wk_store, sxB, sxP, Nat.reduceLeDiff, reduceCtorEq, Nat.reduceEqDiff, Nat.reduceAdd, Int.reduceLT, Int.reduceLE, Int.reduceEq, Nat.reduceLT, Int.reduceToNat, Int.reduceAdd, Int.reduceSub, ↓reduceIte, ↓ixj, ↓ldj, (eq_false (by decide) : (lt 4 = ⟨#[97]⟩) = False), (eq_false (by decide) : (lt 4 = ⟨#[107]⟩) = False), (eq_false (by decide) : (lt 4 = ⟨#[115]⟩) = False), (eq_false (by decide) : (lt 4 = ⟨#[110]⟩) = False), (eq_true rfl : (lt 4 = ⟨#[109]⟩) = True), hb5']
                exact ⟨_, rfl, next _ (get_put_same _ _ _) rfl (fun k hk => get_put_ne _ _ _ _ (Ne.symm hk)), hmeas⟩
              ·
                simp (disch := omega) only [↓sxA, ↓wk_store, sxB, sxP, Nat.reduceLeDiff, reduceCtorEq, Nat.reduceEqDiff, Nat.reduceAdd, Int.reduceLT, Int.reduceLE, Int.reduceEq, Nat.reduceLT, Int.reduceToNat, Int.reduceAdd, Int.reduceSub, ↓reduceIte, ↓ixj, ↓ldj, (eq_false (by decide) : (lt 5 = ⟨#[97]⟩) = False), (eq_false (by decide) : (lt 5 = ⟨#[107]⟩) = False), (eq_false (by decide) : (lt 5 = ⟨#[115]⟩) = False), (eq_false (by decide) : (lt 5 = ⟨#[110]⟩) = False), (eq_false (by decide) : (lt 5 = ⟨#[109]⟩) = False), (eq_true rfl : (lt 5 = ⟨#[102]⟩) = True), hb5']
                exact ⟨_, rfl, next _ (get_put_same _ _ _) rfl (fun k hk => get_put_ne _ _ _ _ (Ne.symm hk)), hmeas⟩
            · have hno : ∀ i, i < 6 → p ≠ lt i := fun i hi e => hlt ⟨i, hi, e⟩
              have hb := bad (add_no x p hno)
              have q0 : (p = ⟨#[97]⟩) = False := eq_false (hno 0 (by decide))
              have q1 : (p = ⟨#[107]⟩) = False := eq_false (hno 1 (by decide))
              have q2 : (p = ⟨#[115]⟩) = False := eq_false (hno 2 (by decide))
              have q3 : (p = ⟨#[110]⟩) = False := eq_false (hno 3 (by decide))
              have q4 : (p = ⟨#[109]⟩) = False := eq_false (hno 4 (by decide))
              have q5 : (p = ⟨#[102]⟩) = False := eq_false (hno 5 (by decide))
              simp (disch := omega) only [↓sxA, ↓wk_store, sxB, sxP, Nat.reduceLeDiff, reduceCtorEq, Nat.reduceEqDiff, Nat.reduceAdd, Int.reduceLT, Int.reduceLE, Int.reduceEq, Nat.reduceLT, Int.reduceToNat, Int.reduceAdd, Int.reduceSub, ↓reduceIte, ↓ixj, ↓ldj, q0, q1, q2, q3, q4, q5, ↓all5, ↓st7]
              rw [resP_k1]
              simp (disch := omega) only [↓sxA, ↓wk_store, sxB, sxP, Nat.reduceLeDiff, reduceCtorEq, Nat.reduceEqDiff, Nat.reduceAdd, Int.reduceLT, Int.reduceLE, Int.reduceEq, Nat.reduceLT, Int.reduceToNat, Int.reduceAdd, Int.reduceSub, ↓reduceIte]
              refine (rk_loadAll (k := 7) (get_put_same _ _ _) rfl (by decide) _).mpr ?_
              simp (disch := omega) only [↓sxA, ↓wk_store, sxB, sxP, Nat.reduceLeDiff, reduceCtorEq, Nat.reduceEqDiff, Nat.reduceAdd, Int.reduceLT, Int.reduceLE, Int.reduceEq, Nat.reduceLT, Int.reduceToNat, Int.reduceAdd, Int.reduceSub, ↓reduceIte]
              exact endBad hb
        · have hdrop : t.drop j = [] := List.drop_eq_nil_of_le (by omega)
          rw [hdrop] at hmk
          simp only [marksA] at hmk
          rw [hmk] at hit
          simp only at hit
          have endOk : ∀ y : IM, itemA s = some y → y.names = pieces 61 h → y.mks = x → K (.tuple #[.agg (lputs zero7 0 (itCells nv x)).toArray, .bool true]) (s5.put st.next (some (.row (lputs zero7 0 (itCells nv x)) 0 false))) := fun y hy hn hk => by
            subst hk
            exact hok y hy _ _ (F5.put _ (Nat.le_refl _) _) (by rw [hn]; exact c4.keep fun i hi => (get_put_ne _ _ _ _ (by omega)).trans (f5 i (by omega))) nv1 (by omega) (by show _ ≤ s5.next; omega)
          clear hbad hok hpre hbits hmk hdrop c4 r2 r3 r23 r24 r25 hbox2 hbox3 hbox4 hp hlen ix ld
          obtain ⟨a, k, s', n', m, f⟩ := x
          have hb5' := hb5
          unfold itCells at hb5'
          have hb6 : ∀ W, ((s5.put st.next W).get s3.next) = some (.row [nv, .bool a, .bool k, .bool s', .bool n', .bool m, .bool f] 0 false) := fun W => (get_put_ne _ _ _ _ (by omega)).trans hb5'
          cases a <;> cases k <;> cases s' <;> cases n' <;> cases m <;> cases f <;> (
            simp (disch := omega) only [↓sxA, ↓wk_store, sxB, sxP, Nat.reduceLeDiff, reduceCtorEq, Nat.reduceEqDiff, Nat.reduceAdd, Int.reduceLT, Int.reduceLE, Int.reduceEq, Nat.reduceLT, Int.reduceToNat, Int.reduceAdd, Int.reduceSub, ↓reduceIte, ↓l24, ↓all5, ↓st7, hb5', hb6]
            rw [resP_k1]
            simp (disch := omega) only [↓sxA, ↓wk_store, sxB, sxP, Nat.reduceLeDiff, reduceCtorEq, Nat.reduceEqDiff, Nat.reduceAdd, Int.reduceLT, Int.reduceLE, Int.reduceEq, Nat.reduceLT, Int.reduceToNat, Int.reduceAdd, Int.reduceSub, ↓reduceIte]
            refine (rk_loadAll (k := 7) (get_put_same _ _ _) rfl (by decide) _).mpr ?_
            simp (disch := omega) only [↓sxA, ↓wk_store, sxB, sxP, Nat.reduceLeDiff, reduceCtorEq, Nat.reduceEqDiff, Nat.reduceAdd, Int.reduceLT, Int.reduceLE, Int.reduceEq, Nat.reduceLT, Int.reduceToNat, Int.reduceAdd, Int.reduceSub, ↓reduceIte]
            first
            | exact endBad (hit.trans rfl)
            | exact endOk _ (hit.trans rfl) rfl rfl)
end
end Go.Proofs.YtdmemibnphcedaaGreatDoor
