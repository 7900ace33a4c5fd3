/-
  An item as the program reads it.
-/
import Derived.Test.YtdmemibnphcedaaGreatDoorRTplD
set_option linter.unusedSimpArgs false
set_option linter.unusedVariables false
set_option maxRecDepth 10000
set_option linter.unusedSectionVars false
namespace Go.Proofs.YtdmemibnphcedaaGreatDoor
open Go.Am
theorem rk_loadAll {st : St} {b k g : Nat} {ro : Bool} {cs : List Value} (hb : st.get b = some (.row cs g ro)) (hl : cs.length = k) (hk0 : 0 < k) (K : Value → Prop) : ropK (.loadN k) [.pointer (some ⟨b, 0, none⟩)] st K = K (.agg cs.toArray) :=
  rk_loadK hb (by rw [List.drop_zero, List.take_of_length_le (by omega)]) hl hk0 K

attribute [local irreducible] callO wopK ropK popK opK grpsE listE sx Runs

/-- nothing that was has turned -/
structure Frm (st st' : St) : Prop where
  nx : st.next ≤ st'.next
  old : ∀ i, i < st.next → st'.get i = st.get i
theorem Frm.refl (st : St) : Frm st st := ⟨Nat.le_refl _, fun _ _ => rfl⟩
theorem Frm.trans {s1 s2 s3 : St} (h : Frm s1 s2) (k : Frm s2 s3) : Frm s1 s3 := ⟨Nat.le_trans h.nx k.nx, fun i hi => (k.old i (Nat.lt_of_lt_of_le hi h.nx)).trans (h.old i hi)⟩
theorem Frm.new (st : St) (o : AObj) : Frm st (st.new o) := ⟨Nat.le_succ _, fun i hi => get_new_ne _ _ _ (by omega)⟩
theorem Frm.put {st s : St} (h : Frm st s) (i : Nat) (hi : st.next ≤ i) (o : Option AObj) : Frm st (s.put i o) := ⟨h.nx, fun j hj => (get_put_ne _ _ _ _ (by omega)).trans (h.old j hj)⟩
theorem Frm.max {st s : St} (h : Frm st s) (h0 : 0 < st.next) (hm : hasMax st = true) : hasMax s = true := by
  have : hasMax s = hasMax st := by unfold hasMax; rw [h.old 0 h0]
  rw [this]; exact hm

/-- the marks so far -/
def ItL (st : St) (s2 : St) (v4 : Value) (t : List ByteArray) (vs : List Value) (s : St) : Prop :=
  s = s2 ∧ ∃ (x : Mk) (j : Nat), j ≤ t.length ∧ vs = [.pointer (some ⟨st.next, 0, none⟩), v4, .int .i64 x.int, blo v4 1, .int .i64 t.length, .int .i64 j] ∧ marksA t Mk.none = marksA (t.drop j) x

abbrev zero7 : List Value := [.slice none 0 0, .bool false, .bool false, .bool false, .bool false, .bool false, .bool false]

theorem len_blo {st : St} {v : Value} {cs : List Value} (h : Row1 st v cs) (n : Nat) (hn : n ≤ cs.length) (K : Value → Prop) : popK .lenSl [blo v n] K = K (.int .i64 ((cs.drop n).length : Nat)) := len_cel (sllo_cel1 h n hn) K

theorem fit_bits (a k s n m f : Bool) : (Mk.mk a k s n m f).fit = (!(s && (a || k || n || m || f)) && !(m && k) && !(f && (k || n || m))) := rfl

theorem int_only (x : Mk) : x.int = 4 ↔ (x.s && !x.a && !x.k && !x.n && !x.m && !x.f) = true := by
  obtain ⟨a, k, s, n, m, f⟩ := x
  revert a k s n m f
  decide +kernel
theorem int_rest (x : Mk) : notI x.int 1 = 32 ↔ (x.f && !x.k && !x.s && !x.n && !x.m) = true := by
  obtain ⟨a, k, s, n, m, f⟩ := x
  revert a k s n m f
  decide +kernel

section
variable {st : St} {K : Value → St → Prop}

set_option maxHeartbeats 8000000 in
theorem kItem (n : Nat) (s : ByteArray) (hs : s.size < 80000) (h0 : 0 < st.next) (hm : hasMax st = true)
    (hbad : itemA s = Option.none → ∀ l : List Value, l.length = 7 → l.all oneCell = true → ∀ st', Frm st st' → K (.tuple #[.agg l.toArray, .bool false]) st')
    (hok : ∀ x, itemA s = some x → ∀ nv st', Frm st st' → Cel st' nv (x.names.map Value.string) → oneCell nv = true → (ow nv = 0 ∨ st.next + 1 ≤ ow nv) → ow nv ≤ st'.next → K (.tuple #[.agg (itCells nv x.mks).toArray, .bool true]) st') :
    callK (callO T0 orc fns 100000 (n + 5)) 38 [.string s] st K := by
  refine fn_runs (fn := g38) ?_ ?_ ?_
  · rfl
  · rfl
  unfold g38
  obtain ⟨h, t, hp⟩ : ∃ h t, pieces 47 s = h :: t := by
    cases hc : pieces 47 s with
    | nil => exact (pieces_ne 47 s hc).elim
    | cons h t => exact ⟨h, t, rfl⟩
  have hit : itemA s = match marksA t Mk.none with
    | some x => if (pieces 61 h).all isNm && x.fit then some ⟨pieces 61 h, x⟩ else Option.none
    | Option.none => Option.none := by unfold itemA; rw [hp]; rfl
  have hlen : (pieces 47 s).length ≤ s.size + 1 := pieces_length 47 s
  have hhs : h.size ≤ s.size := pieces_size (c := 47) (by rw [hp]; simp)
  have hts : ∀ p ∈ t, p.size ≤ s.size := fun p hpt => pieces_size (c := 47) (by rw [hp]; simp [hpt])
  rw [hp] at hlen
  simp only [List.length_cons] at hlen
  have F1 := Frm.new st (.row zero7 0 false)
  simp (disch := omega) only [↓sxA, ↓wk_store, sxB, sxP, Nat.reduceLeDiff, reduceCtorEq, Nat.reduceEqDiff, Nat.reduceAdd, Int.reduceLT, Int.reduceLE, Int.reduceEq, Nat.reduceLT, Int.reduceToNat, Int.reduceAdd, Int.reduceSub, ↓reduceIte]
  refine kSplit (n + 4) s 47 (by omega) (F1.max h0 hm) fun s2 r2 n2 f2 => ?_
  have n2' : s2.next = st.next + 2 := n2
  have F2 : Frm st s2 := F1.trans ⟨by show st.next + 1 ≤ s2.next; omega, f2⟩
  have hbox : s2.get st.next = some (.row zero7 0 false) := (f2 _ (Nat.lt_succ_self _)).trans (get_new_same _ _)
  have hn1 : (st.new (.row zero7 0 false)).next = st.next + 1 := rfl
  have m2 := F2.max h0 hm
  rw [hp] at r2
  have hown : ow (Value.slice (some ⟨(st.new (.row zero7 0 false)).next, 0, none⟩) (pieces 47 s).length (pieces 47 s).length) = st.next + 2 := rfl
  rw [hp] at hown
  rw [hp]
  generalize Value.slice (some ⟨(st.new (.row zero7 0 false)).next, 0, none⟩) (h :: t).length (h :: t).length = v4 at r2 hown
  have sl := fun K => sllo_row1 r2 .i64 1 K (by decide) (by rw [List.length_map, List.length_cons]; omega)
  have ln := len_blo r2 1 (by rw [List.length_map, List.length_cons]; omega)
  have hc4 := sllo_cel1 r2 1 (by rw [List.length_map, List.length_cons]; omega)
  simp only [List.map_cons, List.drop_succ_cons, List.drop_zero, List.length_map] at ln hc4
  have one7 : zero7.length = 7 := rfl
  simp (disch := omega) only [↓sxA, ↓wk_store, sxB, sxP, Nat.reduceLeDiff, reduceCtorEq, Nat.reduceEqDiff, Nat.reduceAdd, Int.reduceLT, Int.reduceLE, Int.reduceEq, Nat.reduceLT, Int.reduceToNat, Int.reduceAdd, Int.reduceSub, ↓reduceIte, ↓sl, ↓ln]
  refine loop_rule [2, 4, 5, 14, 15, 16] (ItL st s2 v4 t) (fun vs _ => match lget vs 5 with
      | .int _ k => ((t.length : Int) - k).toNat
      | _ => 0) ?_ ?_ ?_
  · rfl
  · refine ⟨_, rfl, ⟨rfl, Mk.none, 0, Nat.zero_le _, rfl, rfl⟩, ?_⟩
    show ((t.length : Int) - 0).toNat < 100000
    omega
  · rintro vs s1 ⟨rfl, x, j, hj, rfl, hmk⟩
    show sx _ _ _ _ _ [(2, _), (4, _), (5, _), (14, _), (15, _), (16, _)] _ _ _ _
    by_cases hjt : j < t.length
    · have ix := idx_cel hc4 .i64 (j : Int)
      have e := getD_str t j hjt
      have ld : ∀ K : Value → Prop, ropK .load1 [bptr (blo v4 1) (j : Int)] s1 K = K (.string (t.getD j .empty)) := fun K => by
        rw [load_cel hc4 (j : Int) K (by omega) (by rw [List.length_map]; omega), Int.toNat_natCast, e]
      rw [List.length_map] at ix
      have hpm : t.getD j .empty ∈ t := by rw [List.getD_eq_getElem?_getD, List.getElem?_eq_getElem hjt, Option.getD_some]; exact List.getElem_mem hjt
      have hdrop : t.drop j = t.getD j .empty :: t.drop (j + 1) := by rw [List.drop_eq_getElem_cons hjt, List.getD_eq_getElem?_getD, List.getElem?_eq_getElem hjt, Option.getD_some]
      have hps := hts _ hpm
      rw [hdrop] at hmk
      generalize t.getD j .empty = p at hmk hps ld
      simp (disch := omega) only [↓sxA, ↓wk_store, sxB, sxP, Nat.reduceLeDiff, reduceCtorEq, Nat.reduceEqDiff, Nat.reduceAdd, Int.reduceLT, Int.reduceLE, Int.reduceEq, Nat.reduceLT, Int.reduceToNat, Int.reduceAdd, Int.reduceSub, ↓reduceIte, ↓ix, ↓ld]
      refine kIndex (n + 4) order _ (by decide) m2 ?_
      have bad : x.add p = Option.none → itemA s = Option.none := fun ha => by
        rw [hit, hmk]; simp only [marksA, ha]
      rcases part_is p with ⟨h1, h2⟩ | ⟨h1, h3, h2⟩ | ⟨i, hi, hpe, h1, h3⟩
      · -- not of one byte
        have q1 : ((p.size : Int) = 1) = False := eq_false (by omega)
        have hb := bad (add_no x p h2)
        simp (disch := omega) only [↓sxA, ↓wk_store, sxB, sxP, Nat.reduceLeDiff, reduceCtorEq, Nat.reduceEqDiff, Nat.reduceAdd, Int.reduceLT, Int.reduceLE, Int.reduceEq, Nat.reduceLT, Int.reduceToNat, Int.reduceAdd, Int.reduceSub, ↓reduceIte, q1, hbox, cells_agg]
        rw [resP_k1]
        simp (disch := omega) only [↓sxA, ↓wk_store, sxB, sxP, Nat.reduceLeDiff, reduceCtorEq, Nat.reduceEqDiff, Nat.reduceAdd, Int.reduceLT, Int.reduceLE, Int.reduceEq, Nat.reduceLT, Int.reduceToNat, Int.reduceAdd, Int.reduceSub, ↓reduceIte]
        refine (rk_loadK (xs := zero7) (get_put_same _ _ _) rfl rfl (by decide) _).mpr ?_
        simp (disch := omega) only [↓sxA, ↓wk_store, sxB, sxP, Nat.reduceLeDiff, reduceCtorEq, Nat.reduceEqDiff, Nat.reduceAdd, Int.reduceLT, Int.reduceLE, Int.reduceEq, Nat.reduceLT, Int.reduceToNat, Int.reduceAdd, Int.reduceSub, ↓reduceIte]
        exact hbad hb zero7 rfl rfl _ (F2.put _ (Nat.le_refl _) _)
      · -- no mark
        have q1 : ((p.size : Int) = 1) = True := eq_true (by omega)
        have hb := bad (add_no x p h2)
        simp (disch := omega) only [↓sxA, ↓wk_store, sxB, sxP, Nat.reduceLeDiff, reduceCtorEq, Nat.reduceEqDiff, Nat.reduceAdd, Int.reduceLT, Int.reduceLE, Int.reduceEq, Nat.reduceLT, Int.reduceToNat, Int.reduceAdd, Int.reduceSub, ↓reduceIte, q1, h3, hbox, cells_agg]
        rw [resP_k1]
        simp (disch := omega) only [↓sxA, ↓wk_store, sxB, sxP, Nat.reduceLeDiff, reduceCtorEq, Nat.reduceEqDiff, Nat.reduceAdd, Int.reduceLT, Int.reduceLE, Int.reduceEq, Nat.reduceLT, Int.reduceToNat, Int.reduceAdd, Int.reduceSub, ↓reduceIte]
        refine (rk_loadK (xs := zero7) (get_put_same _ _ _) rfl rfl (by decide) _).mpr ?_
        simp (disch := omega) only [↓sxA, ↓wk_store, sxB, sxP, Nat.reduceLeDiff, reduceCtorEq, Nat.reduceEqDiff, Nat.reduceAdd, Int.reduceLT, Int.reduceLE, Int.reduceEq, Nat.reduceLT, Int.reduceToNat, Int.reduceAdd, Int.reduceSub, ↓reduceIte]
        exact hbad hb zero7 rfl rfl _ (F2.put _ (Nat.le_refl _) _)
      · have q1 : ((p.size : Int) = 1) = True := eq_true (by omega)
        have ha := add_lt x i hi
        rw [← hpe] at ha
        have q2 : (p2 i = 0) = False := eq_false (by match i, hi with
          | 0, _ | 1, _ | 2, _ | 3, _ | 4, _ | 5, _ => decide)
        cases hbit : x.bit i with
        | true =>
          have hb := bad (by rw [ha, hbit]; rfl)
          simp (disch := omega) only [↓sxA, ↓wk_store, sxB, sxP, Nat.reduceLeDiff, reduceCtorEq, Nat.reduceEqDiff, Nat.reduceAdd, Int.reduceLT, Int.reduceLE, Int.reduceEq, Nat.reduceLT, Int.reduceToNat, Int.reduceAdd, Int.reduceSub, ↓reduceIte, q1, h3, hbox, cells_agg, popShl, shl_p2 i hi, popAnd, and_bit x i hi, hbit, b2i, q2]
          rw [resP_k1]
          simp (disch := omega) only [↓sxA, ↓wk_store, sxB, sxP, Nat.reduceLeDiff, reduceCtorEq, Nat.reduceEqDiff, Nat.reduceAdd, Int.reduceLT, Int.reduceLE, Int.reduceEq, Nat.reduceLT, Int.reduceToNat, Int.reduceAdd, Int.reduceSub, ↓reduceIte]
          refine (rk_loadK (xs := zero7) (get_put_same _ _ _) rfl rfl (by decide) _).mpr ?_
          simp (disch := omega) only [↓sxA, ↓wk_store, sxB, sxP, Nat.reduceLeDiff, reduceCtorEq, Nat.reduceEqDiff, Nat.reduceAdd, Int.reduceLT, Int.reduceLE, Int.reduceEq, Nat.reduceLT, Int.reduceToNat, Int.reduceAdd, Int.reduceSub, ↓reduceIte]
          exact hbad hb zero7 rfl rfl _ (F2.put _ (Nat.le_refl _) _)
        | false =>
          have ha' : x.add p = some (x.put i) := by rw [ha, hbit]; rfl
          simp (disch := omega) only [↓sxA, ↓wk_store, sxB, sxP, Nat.reduceLeDiff, reduceCtorEq, Nat.reduceEqDiff, Nat.reduceAdd, Int.reduceLT, Int.reduceLE, Int.reduceEq, Nat.reduceLT, Int.reduceToNat, Int.reduceAdd, Int.reduceSub, ↓reduceIte, q1, h3, popShl, shl_p2 i hi, popAnd, and_bit x i hi, hbit, b2i, popOr, or_put x i hi]
          refine ⟨_, rfl, ⟨rfl, x.put i, j + 1, by omega, rfl, ?_⟩, ?_⟩
          · rw [hmk]; simp only [marksA, ha']
          · show ((t.length : Int) - ((j : Int) + 1)).toNat < ((t.length : Int) - j).toNat
            omega
    · have hdrop : t.drop j = [] := List.drop_eq_nil_of_le (by omega)
      rw [hdrop] at hmk
      simp only [marksA] at hmk
      rw [hmk] at hit
      simp only at hit
      have ix := idx_cel r2.cel .i64 (0 : Int)
      have ld := load_cel r2.cel (0 : Int)
      simp only [List.map_cons, List.length_cons, List.length_map] at ix ld
      simp (disch := omega) only [↓sxA, ↓wk_store, sxB, sxP, Nat.reduceLeDiff, reduceCtorEq, Nat.reduceEqDiff, Nat.reduceAdd, Int.reduceLT, Int.reduceLE, Int.reduceEq, Nat.reduceLT, Int.reduceToNat, Int.reduceAdd, Int.reduceSub, ↓reduceIte, ↓ix, ↓ld, List.getD_cons_zero]
      refine kSplit (n + 4) h 61 (by omega) m2 fun s3 r3 n3 f3 => ?_
      have F3 : Frm st s3 := F2.trans ⟨by omega, f3⟩
      have hbox3 : s3.get st.next = some (.row zero7 0 false) := (f3 _ (by omega)).trans hbox
      simp (disch := omega) only [↓sxA, ↓wk_store, sxB, sxP, Nat.reduceLeDiff, reduceCtorEq, Nat.reduceEqDiff, Nat.reduceAdd, Int.reduceLT, Int.reduceLE, Int.reduceEq, Nat.reduceLT, Int.reduceToNat, Int.reduceAdd, Int.reduceSub, ↓reduceIte]
      refine kContainsBad (n + 1) r3.cel (by have := pieces_length 61 h; omega) (fun p hpp => by have := pieces_size hpp; omega) ?_
      clear hmk ix ld hc4 sl ln
      cases hall : (pieces 61 h).all isNm with
      | false =>
        have hb : itemA s = Option.none := by rw [hit, hall]; rfl
        simp (disch := omega) only [↓sxA, ↓wk_store, sxB, sxP, Nat.reduceLeDiff, reduceCtorEq, Nat.reduceEqDiff, Nat.reduceAdd, Int.reduceLT, Int.reduceLE, Int.reduceEq, Nat.reduceLT, Int.reduceToNat, Int.reduceAdd, Int.reduceSub, ↓reduceIte, hbox3, cells_agg]
        rw [resP_k1]
        simp (disch := omega) only [↓sxA, ↓wk_store, sxB, sxP, Nat.reduceLeDiff, reduceCtorEq, Nat.reduceEqDiff, Nat.reduceAdd, Int.reduceLT, Int.reduceLE, Int.reduceEq, Nat.reduceLT, Int.reduceToNat, Int.reduceAdd, Int.reduceSub, ↓reduceIte]
        refine (rk_loadK (xs := zero7) (get_put_same _ _ _) rfl rfl (by decide) _).mpr ?_
        simp (disch := omega) only [↓sxA, ↓wk_store, sxB, sxP, Nat.reduceLeDiff, reduceCtorEq, Nat.reduceEqDiff, Nat.reduceAdd, Int.reduceLT, Int.reduceLE, Int.reduceEq, Nat.reduceLT, Int.reduceToNat, Int.reduceAdd, Int.reduceSub, ↓reduceIte]
        exact hbad hb zero7 rfl rfl _ (F3.put _ (Nat.le_refl _) _)
      | true =>
        rw [hall] at hit
        have A1 : andI x.int 1 = b2i x.a 1 := and_bit x 0 (by decide)
        have A2 : andI x.int 2 = b2i x.k 2 := and_bit x 1 (by decide)
        have A4 : andI x.int 4 = b2i x.s 4 := and_bit x 2 (by decide)
        have A8 : andI x.int 8 = b2i x.n 8 := and_bit x 3 (by decide)
        have A16 : andI x.int 16 = b2i x.m 16 := and_bit x 4 (by decide)
        have A32 : andI x.int 32 = b2i x.f 32 := and_bit x 5 (by decide)
        have E4 : (x.int = 4) = ((x.s && !x.a && !x.k && !x.n && !x.m && !x.f) = true) := propext (int_only x)
        have E32 : (notI x.int 1 = 32) = ((x.f && !x.k && !x.s && !x.n && !x.m) = true) := propext (int_rest x)
        have hcel := r3.cel
        have ho1 : ow (Value.slice (some ⟨s1.next, 0, none⟩) (pieces 61 h).length (pieces 61 h).length) = s1.next + 1 := rfl
        have endBad : itemA s = Option.none → K (.tuple #[.agg zero7.toArray, .bool false]) (s3.put st.next (some (.row zero7 0 false))) := fun hb => hbad hb zero7 rfl rfl _ (F3.put _ (Nat.le_refl _) _)
        have endOk : ∀ y : IM, itemA s = some y → y.names = pieces 61 h → K (.tuple #[.agg (itCells (.slice (some ⟨s1.next, 0, none⟩) (pieces 61 h).length (pieces 61 h).length) y.mks).toArray, .bool true]) (s3.put st.next (some (.row (itCells (.slice (some ⟨s1.next, 0, none⟩) (pieces 61 h).length (pieces 61 h).length) y.mks) 0 false))) := fun y hy hn => hok y hy _ _ (F3.put _ (Nat.le_refl _) _) (by rw [hn]; exact hcel.keep fun i hi => get_put_ne _ _ _ _ (by omega)) rfl (.inr (by omega)) (by show _ ≤ s3.next; omega)
        clear hbad hok hm m2 hbox r2 hcel r3 hts hlen hp one7 hown
        obtain ⟨a, k, s', n', m, f⟩ := x
        simp only at A1 A2 A4 A8 A16 A32 E4 E32
        cases a <;> cases k <;> cases s' <;> cases n' <;> cases m <;> cases f <;> (
          simp (disch := omega) only [popAnd, popNot, A1, A2, A4, A8, A16, A32, E4, E32, b2i, Bool.true_and, Bool.false_and, Bool.and_true, Bool.and_false, Bool.true_or, Bool.false_or, Bool.or_true, Bool.or_false, Bool.not_true, Bool.not_false, cond_true, cond_false, Bool.and_self, Bool.or_self, Bool.false_eq_true, if_true, if_false, Int.reduceEq, ↓sxA, ↓wk_store, sxB, sxP, Nat.reduceLeDiff, reduceCtorEq, Nat.reduceEqDiff, Nat.reduceAdd, Int.reduceLT, Int.reduceLE, Int.reduceEq, Nat.reduceLT, Int.reduceToNat, Int.reduceAdd, Int.reduceSub, ↓reduceIte, hbox3, cells_agg]
          rw [resP_k1]
          simp (disch := omega) only [↓sxA, ↓wk_store, sxB, sxP, Nat.reduceLeDiff, reduceCtorEq, Nat.reduceEqDiff, Nat.reduceAdd, Int.reduceLT, Int.reduceLE, Int.reduceEq, Nat.reduceLT, Int.reduceToNat, Int.reduceAdd, Int.reduceSub, ↓reduceIte]
          first
          | (refine (rk_loadK (xs := zero7) (get_put_same _ _ _) rfl rfl (by decide) _).mpr ?_
             simp (disch := omega) only [↓sxA, ↓wk_store, sxB, sxP, Nat.reduceLeDiff, reduceCtorEq, Nat.reduceEqDiff, Nat.reduceAdd, Int.reduceLT, Int.reduceLE, Int.reduceEq, Nat.reduceLT, Int.reduceToNat, Int.reduceAdd, Int.reduceSub, ↓reduceIte]
             exact endBad (hit.trans rfl))
          | (refine (rk_loadAll (k := 7) (get_put_same _ _ _) rfl (by decide) _).mpr ?_
             simp (disch := omega) only [↓sxA, ↓wk_store, sxB, sxP, Nat.reduceLeDiff, reduceCtorEq, Nat.reduceEqDiff, Nat.reduceAdd, Int.reduceLT, Int.reduceLE, Int.reduceEq, Nat.reduceLT, Int.reduceToNat, Int.reduceAdd, Int.reduceSub, ↓reduceIte]
             exact endOk _ (hit.trans rfl) rfl))
end
end Go.Proofs.YtdmemibnphcedaaGreatDoor
