/-
  The program's Fit.
-/
import Derived.Test.YtdmemibnphcedaaGreatDoorRFitI
set_option linter.unusedSimpArgs false
set_option linter.unusedVariables false
set_option maxRecDepth 10000
set_option linter.unusedSectionVars false
namespace Go.Proofs.YtdmemibnphcedaaGreatDoor
open Go.Am
attribute [local irreducible] callO wopK ropK popK opK grpsE listE sx Runs

/-- what Fit gives -/
def FitO (Q : List IM → Option (List Cl) → Prop) (t s : ByteArray) (v : Value) (e : Int) (st : St) : Prop :=
  (1000 < s.size ∧ e = 2 ∧ v = .slice none 0 0) ∨ (s.size ≤ 1000 ∧ ∃ l e', TmA t l e' ∧ ((e' ≠ 0 ∧ e = e' ∧ v = .slice none 0 0) ∨ (e' = 0 ∧ ((Q l none ∧ e = 250 ∧ v = .slice none 0 0) ∨ ∃ cs, Q l (some cs) ∧ e = 0 ∧ cs.length = l.length ∧ AgR (fun _ => True) false st v (l.map nm0) cs))))
def QP (L : List UInt8) (l : List IM) (r : Option (List Cl)) : Prop := ∀ q, Fits L l 0 (cls0 l) q → resA l q = r
def QR (L : List UInt8) (l : List IM) (r : Option (List Cl)) : Prop := ∃ q, Fits L l 0 (cls0 l) q ∧ resA l q = r

theorem itemA_fit {p : ByteArray} {x : IM} (h : itemA p = some x) : x.mks.fit = true := by
  unfold itemA at h
  split at h
  · split at h
    · split at h
      · rename_i hh
        cases h
        simp only [Bool.and_eq_true] at hh
        exact hh.2
      · cases h
    · cases h
  · cases h
theorem tm_fit {t : ByteArray} {l : List IM} {e : Int} (h : TmA t l e) : FitL l := by
  have hx : ∀ x ∈ l, x.mks.fit = true := by
    cases h with
    | nil _ => intro x hx; cases hx
    | long _ _ _ _ _ => intro x hx; cases hx
    | bad _ _ => intro x hx; cases hx
    | ok _ _ h1 _ _ =>
      intro x hx
      obtain ⟨p, _, h2⟩ := items_mem h1 x hx
      exact itemA_fit h2
  intro k
  by_cases hk : k < l.length
  · rw [mkAt_lt hk]; exact hx _ (List.getElem_mem hk)
  · have : mkAt l k = Mk.none := by rw [mkAt, List.getD_eq_getElem?_getD, List.getElem?_eq_none (by omega)]; rfl
    rw [this]; rfl

theorem rep_cls : ∀ l : List IM, replicateL l.length [.bool false] = (cls0 l).map fun c => Value.bool c.nm
  | [] => rfl
  | x :: l => by
    have := rep_cls l
    simp only [List.length_cons, replicateL, cls0, List.map_cons, List.singleton_append] at this ⊢
    rw [this]
    rfl
theorem wk_mkB {s : St} {W : Value → St → Prop} (n : Nat) (hn : n ≤ 1099511627776) : wopK (.mkSlice [.bool false] 1) [.int .i64 (n : Int), .int .i64 (n : Int)] s W = W (.slice (some ⟨s.next, 0, none⟩) n n) (s.new (.row (replicateL n [.bool false]) 0 false)) := by
  have h1 : (0 : Int) ≤ (n : Int) ∧ (n : Int) ≤ (n : Int) ∧ (n : Int) * ((1 : Nat) : Int) ≤ 1099511627776 ∧ (n : Int) ≤ 1099511627776 := ⟨by omega, by omega, by omega, by omega⟩
  simp only [wopK, wop]
  rw [if_pos h1]
  rfl

theorem one_cells {v : Value} (h : oneCell v = true) : cellsOf v = [v] := by
  cases v <;> first | rfl | (simp [oneCell] at h)
theorem AgR.one {ok : Nat → Prop} {g : Bool} {st : St} {v : Value} {ns : List ByteArray} {cs : List Cl} (h : AgR ok g st v ns cs) : oneCell v = true := by
  obtain ⟨es, vf, h1, _⟩ := h
  exact h1.one
theorem ItR.one {lo : Nat} {st : St} {v : Value} {l : List IM} (h : ItR lo st v l) : oneCell v = true := by
  obtain ⟨nvs, h1, h2, _⟩ := h
  exact h2.one
theorem stepA_blk {L : List UInt8} {p : Nat} (hp : p ≤ L.length) (l : List IM) (cs : List Cl) : stepA L l (blk L p) cs = stepA L l p cs := by
  unfold stepA
  rw [nxt_blk hp]

/-- before the items are laid on: the fitter with an empty list of arguments, and then one more each time -/
def L1 (s1 : St) (va : Value) (s : ByteArray) (l : List IM) (vs : List Value) (st : St) : Prop :=
  ∃ (j : Nat) (ov : Value), vs = [.string s, va, .pointer (some ⟨s1.next + 1, 0, none⟩), va, .int .i64 (l.length : Nat), .int .i64 (j : Nat)] ∧ j ≤ l.length ∧ Frm s1 st ∧ s1.next + 2 ≤ st.next ∧
    st.get (s1.next + 1) = some (.row [va, .string s, .int .i64 0, ov, .slice (some ⟨s1.next, 0, none⟩) l.length l.length] 0 false) ∧ AgR (fun n => s1.next + 1 ≤ n ∧ n ≠ s1.next + 1 + 1 ∧ n ≠ s1.next + 1) true st ov (l.map nm0) (cls0 (l.take j)) ∧
    st.get s1.next = some (.row ((cls0 l).map fun c => Value.bool c.nm) 0 false)
/-- between two words -/
def L2 (s1 : St) (va : Value) (s : ByteArray) (l : List IM) (vs : List Value) (st : St) : Prop :=
  ∃ (p : Nat) (cs : List Cl), vs = [.string s, va, .pointer (some ⟨s1.next + 1, 0, none⟩), .int .i64 (blk s.data.toList p : Nat)] ∧ p ≤ s.size ∧ FtR s1 st (s1.next + 1) va s l p cs ∧ (p < s.size → Iv l cs ∧ ∀ k, (clAt cs k).vals.length ≤ p) ∧ ¬ BadNum l cs ∧ ∀ q, Fits s.data.toList l 0 (cls0 l) q → Fits s.data.toList l p cs q
/-- whether all is there -/
def L3 (s1 s2 : St) (va : Value) (l : List IM) (cs : List Cl) (vs : List Value) (st : St) : Prop :=
  ∃ j : Nat, vs = [.pointer (some ⟨s1.next + 1, 0, none⟩), va, .int .i64 (l.length : Nat), .int .i64 (j : Nat)] ∧ j ≤ l.length ∧ Frm s2 st ∧ ∀ k, k < j → (mkAt l k).a = true → (clAt cs k).set = true

theorem cls_snoc (l : List IM) (j : Nat) (hj : j < l.length) : cls0 (l.take (j + 1)) = cls0 (l.take j) ++ [Cl.zero] := by
  unfold cls0
  rw [List.take_add_one, List.getElem?_eq_getElem hj, List.map_append]
  rfl
theorem cls_no (l : List IM) : ¬ BadNum l (cls0 l) := by
  rintro ⟨k, v, _, _, h, _⟩
  have : clAt (cls0 l) k = Cl.zero := by
    unfold clAt cls0
    rw [List.getD_eq_getElem?_getD, List.getElem?_map]
    cases l[k]? <;> rfl
  rw [this] at h
  cases h

section
variable {st : St} {K : Value → St → Prop}

set_option maxHeartbeats 4000000 in
theorem kFit (n : Nat) (t s : ByteArray) (ht : t.size < 80000) (h0 : 2 < st.next) (hm : hasMax st = true) (he : hasErr st = true)
    (h : ∀ v e st', FitO (QP s.data.toList) t s v e st' → Frm st st' → K (.tuple #[v, .int .i64 e]) st') :
    callK (callO T0 orc fns 100000 (n + 7)) 10 [.string t, .string s] st K := by
  refine fn_runs (fn := g10) ?_ ?_ ?_
  · rfl
  · rfl
  unfold g10
  by_cases hbig : 1000 < s.size
  · simp (disch := omega) only [↓sxA, ↓wk_store, sxB, sxP, Nat.reduceLeDiff, reduceCtorEq, Nat.reduceEqDiff, Nat.reduceAdd, Int.reduceLT, Int.reduceLE, Int.reduceEq, Nat.reduceLT, Int.reduceToNat, Int.reduceAdd, Int.reduceSub, ↓reduceIte]
    exact h _ _ _ (.inl ⟨hbig, rfl, rfl⟩) (Frm.refl _)
  have hle : s.size ≤ 1000 := by omega
  simp (disch := omega) only [↓sxA, ↓wk_store, sxB, sxP, Nat.reduceLeDiff, reduceCtorEq, Nat.reduceEqDiff, Nat.reduceAdd, Int.reduceLT, Int.reduceLE, Int.reduceEq, Nat.reduceLT, Int.reduceToNat, Int.reduceAdd, Int.reduceSub, ↓reduceIte]
  refine kTemplate n t ht (by omega) hm fun l e' va s1 hT hR F1 => ?_
  by_cases he' : e' = 0
  · subst he'
    simp (disch := omega) only [↓sxA, ↓wk_store, sxB, sxP, Nat.reduceLeDiff, reduceCtorEq, Nat.reduceEqDiff, Nat.reduceAdd, Int.reduceLT, Int.reduceLE, Int.reduceEq, Nat.reduceLT, Int.reduceToNat, Int.reduceAdd, Int.reduceSub, ↓reduceIte]
    refine kReadable (n + 5) s ?_
    by_cases hr : s.data.toList.all prn = true
    · have hrd : readA s = 0 := by unfold readA; rw [if_neg hbig, if_pos hr]
      rw [hrd]
      have la := hR.len
      obtain ⟨hl20, _, hb⟩ := tm_bounds hT
      have hfit := tm_fit hT
      have hN : NmOk l := fun x hx => by have := (hb x hx).2.1; omega
      have hlb := fun W => wk_mkB (s := s1) (W := W) l.length (by omega)
      have hcl0 : (cls0 l).length = l.length := by simp [cls0]
      have fin0 : ∀ v e st', (∃ r, QP s.data.toList l r ∧ ((r = none ∧ e = 250 ∧ v = .slice none 0 0) ∨ ∃ cs, r = some cs ∧ e = 0 ∧ cs.length = l.length ∧ AgR (fun _ => True) false st' v (l.map nm0) cs)) → Frm s1 st' → K (.tuple #[v, .int .i64 e]) st' := fun v e st' hh hf => by
        obtain ⟨r, hr, hh⟩ := hh
        refine h v e st' (.inr ⟨hle, l, 0, hT, .inr ⟨rfl, ?_⟩⟩) (F1.trans hf)
        rcases hh with ⟨rfl, h1, h2⟩ | ⟨cs, rfl, h1, h2, h3⟩
        · exact .inl ⟨hr, h1, h2⟩
        · exact .inr ⟨cs, hr, h1, h2, h3⟩
      clear h
      have hbn0 : (s1.new (.row (replicateL l.length [.bool false]) 0 false)).get s1.next = some (.row ((cls0 l).map fun c => Value.bool c.nm) 0 false) := by rw [get_new_same, rep_cls]
      have hv1 := hR.one
      have hv2 := one_cells hv1
      simp (disch := omega) only [↓sxA, ↓wk_store, sxB, sxP, Nat.reduceLeDiff, reduceCtorEq, Nat.reduceEqDiff, Nat.reduceAdd, Int.reduceLT, Int.reduceLE, Int.reduceEq, Nat.reduceLT, Int.reduceToNat, Int.reduceAdd, Int.reduceSub, ↓reduceIte, ↓la, ↓hlb, hv1, hv2]
      refine loop_rule [1, 6, 9, 38, 39, 40] (L1 s1 va s l) (fun vs _ => match lget vs 5 with
          | .int _ k => ((l.length : Int) - k).toNat
          | _ => 0) ?_ ?_ ?_
      · rfl
      · refine ⟨_, rfl, ⟨0, _, rfl, Nat.zero_le _, (Frm.new s1 _).trans (Frm.new _ _), Nat.le_refl _, get_new_same _ _, AgR.nil, (get_new_ne _ _ _ (by show s1.next + 1 ≠ s1.next; omega)).trans hbn0⟩, ?_⟩
        show ((l.length : Int) - 0).toNat < 100000
        omega
      · rintro vs s2 ⟨j, ov, rfl, hj, F2, n2, hbx, hag, hbn⟩
        show sx _ _ _ _ _ [(1, _), (6, _), (9, _), (38, _), (39, _), (40, _)] _ _ _ _
        by_cases hjl : j < l.length
        · obtain ⟨bb, nv, a1, a2, a3, a4, a5, a6, a7⟩ := (hR.keep (st' := s2) F2.nx fun i _ hi => F2.old i hi).at hjl
          obtain ⟨s4, st7, hb4, n4, F4⟩ := itBox s2 l[j].mks a5
          have hbx4 := (F4.old _ (by omega)).trans hbx
          have hbn4 := (F4.old _ (by omega)).trans hbn
          have hag4 := hag.keep F4.nx fun i _ hi => F4.old i hi
          have hnv4 := a4.keep (st' := s4) fun i hi => F4.old i (by omega)
          have hnm := (hb _ (List.getElem_mem hjl)).1
          have hnm0 : (l[j].names.map Value.string).getD 0 undef = .string (nm0 l[j]) := by
            cases hh : l[j].names with
            | nil => exact (hnm hh).elim
            | cons a r => simp [nm0, hh]
          have hnl : 0 < l[j].names.length := List.length_pos_iff.2 hnm
          have ix : ∀ K : Value → Prop, popK (.indexAddr 1) [nv, .int .i64 0] K = K (bptr nv 0) := fun K => by
            rw [idx_cel hnv4 .i64 0 K (by omega) (by rw [List.length_map]; omega)]
          have ld : ∀ K : Value → Prop, ropK .load1 [bptr nv 0] s4 K = K (.string (nm0 l[j])) := fun K => by
            rw [load_cel hnv4 0 K (by omega) (by rw [List.length_map]; omega)]
            rw [show (0 : Int).toNat = 0 from rfl, hnm0]
          have hce := hag4.ceq
          obtain ⟨okv, onx⟩ := hag4.okv
          have hlt : (cls0 (l.take j)).length = j := by simp [cls0]; omega
          have hsn := fun W => hag4.snoc (W := W) (s1 := s4.new (.row [.string (nm0 l[j]), .slice none 0 0, .bool false] 0 false)) (nm := nm0 l[j]) (bytes := 48) (sb := s4.next) (gg := 0) (ro := false) (by rw [hlt, List.getD_eq_getElem?_getD, List.getElem?_map, List.getElem?_eq_getElem hjl]; rfl) (fun m hm => ⟨by omega, by omega, by omega⟩) rfl (fun i hi => get_new_ne _ _ _ (by omega)) (Nat.le_refl _) (get_new_same _ _) (by omega) (by omega)
          have hmeas : ((l.length : Int) - ((j : Int) + 1)).toNat < ((l.length : Int) - j).toNat := by omega
          simp (disch := omega) only [↓sxA, ↓wk_store, sxB, sxP, Nat.reduceLeDiff, reduceCtorEq, Nat.reduceEqDiff, Nat.reduceAdd, Int.reduceLT, Int.reduceLE, Int.reduceEq, Nat.reduceLT, Int.reduceToNat, Int.reduceAdd, Int.reduceSub, ↓reduceIte, ↓a1, ↓a2, ↓st7, hbx4, hb4, ↓ix, ↓ld, hce]
          refine hsn _ fun v' s5 g1 g2 g3 g4 => ?_
          have g2' : s5.next = s4.next + 2 := g2
          have hbx5 := (g3 (s1.next + 1) (by omega) (by omega)).trans hbx4
          have hbn5 := (g3 s1.next (by omega) (by omega)).trans hbn4
          rw [← cls_snoc l j hjl] at g1
          have F5 : Frm s1 s5 := ⟨by omega, fun i hi => (g3 i (by omega) (by omega)).trans ((F4.old i (by omega)).trans (F2.old i hi))⟩
          have hw1 := g1.one
          have hw2 := one_cells hw1
          simp (disch := omega) only [↓sxA, ↓wk_store, sxB, sxP, Nat.reduceLeDiff, reduceCtorEq, Nat.reduceEqDiff, Nat.reduceAdd, Int.reduceLT, Int.reduceLE, Int.reduceEq, Nat.reduceLT, Int.reduceToNat, Int.reduceAdd, Int.reduceSub, ↓reduceIte, hbx5, hw1, hw2]
          refine ⟨_, rfl, ⟨j + 1, v', by simp, hjl, F5.put _ (by omega) _, by show s1.next + 2 ≤ s5.next; omega, get_put_same _ _ _, g1.keep (Nat.le_refl _) fun i hi _ => get_put_ne _ _ _ _ (by omega), (get_put_ne _ _ _ _ (by omega)).trans hbn5⟩, hmeas⟩
        · have hjl' : j = l.length := by omega
          rw [hjl', List.take_length] at hag
          have hF : FtR s1 s2 (s1.next + 1) va s l 0 (cls0 l) := ⟨F2, by omega, by omega, hR.weak (by omega), hcl0, ov, s1.next, 0, hbx, hag, hbn, Nat.le_refl _, by omega, by omega⟩
          simp (disch := omega) only [↓sxA, ↓wk_store, sxB, sxP, Nat.reduceLeDiff, reduceCtorEq, Nat.reduceEqDiff, Nat.reduceAdd, Int.reduceLT, Int.reduceLE, Int.reduceEq, Nat.reduceLT, Int.reduceToNat, Int.reduceAdd, Int.reduceSub, ↓reduceIte]
          refine kBlank (n + 5) s (by omega) 0 (s1.next + 1) 0 false (Nat.zero_le _) hbx ?_
          simp (disch := omega) only [↓sxA, ↓wk_store, sxB, sxP, Nat.reduceLeDiff, reduceCtorEq, Nat.reduceEqDiff, Nat.reduceAdd, Int.reduceLT, Int.reduceLE, Int.reduceEq, Nat.reduceLT, Int.reduceToNat, Int.reduceAdd, Int.reduceSub, ↓reduceIte]
          have hsz := size_list s
          have h2e : 2 < s1.next := Nat.lt_of_lt_of_le h0 F1.nx
          have hes := F1.err h0 he
          have hff : ∀ k, (mkAt l k).f = true → (mkAt l k).m = false := fun k hk => (fit_rest (hfit k) hk).2.1
          refine loop_rule [1, 6, 9, 12] (L2 s1 va s l) (fun vs _ => match lget vs 3 with
              | .int _ k => ((s.size : Int) - k).toNat
              | _ => 0) ?_ ?_ ?_
          · rfl
          · refine ⟨_, rfl, ⟨0, cls0 l, rfl, Nat.zero_le _, hF, fun _ => ⟨iv0 l, fun k => ?_⟩, cls_no l, fun q hq => hq⟩, ?_⟩
            · by_cases hs : (clAt (cls0 l) k).set = false
              · rw [(iv0 l).2 k hs]; exact Nat.le_refl _
              · exfalso
                refine hs ?_
                unfold clAt cls0
                rw [List.getD_eq_getElem?_getD, List.getElem?_map]
                cases l[k]? <;> rfl
            · show ((s.size : Int) - (blk s.data.toList 0 : Int)).toNat < 100000
              omega
          · rintro vs s3 ⟨p, cs, rfl, hp, hF3, hiv, hbad, hq⟩
            show sx _ _ _ _ _ [(1, _), (6, _), (9, _), (12, _)] _ _ _ _
            have hpL : p ≤ s.data.toList.length := by omega
            obtain ⟨b1, b2⟩ := blk_le hpL
            by_cases hlt : blk s.data.toList p < s.size
            · obtain ⟨hi, hvl⟩ := hiv (by omega)
              have hbL : blk s.data.toList p ≤ s.data.toList.length := by omega
              simp (disch := omega) only [↓sxA, ↓wk_store, sxB, sxP, Nat.reduceLeDiff, reduceCtorEq, Nat.reduceEqDiff, Nat.reduceAdd, Int.reduceLT, Int.reduceLE, Int.reduceEq, Nat.reduceLT, Int.reduceToNat, Int.reduceAdd, Int.reduceSub, ↓reduceIte]
              refine kStep n hF3 (by omega) hlt (blk_blk hpL) hr h2e hes hi (fun k => by have := hvl k; omega) hfit hN (by omega) fun b s4 hS => ?_
              have bad : ∀ s5, Frm s1 s5 → (∀ q, Fits s.data.toList l 0 (cls0 l) q → resA l q = none) → K (.tuple #[.slice none 0 0, .int .i64 250]) s5 := fun s5 hf hh => fin0 _ _ _ ⟨none, hh, .inl ⟨rfl, rfl, rfl⟩⟩ hf
              cases hst : stepA s.data.toList l (blk s.data.toList p) cs with
              | done r =>
                have hst' := hst
                rw [stepA_blk hpL] at hst'
                cases r with
                | none =>
                  rw [hst] at hS
                  obtain ⟨rfl, hf⟩ := hS
                  simp (disch := omega) only [↓sxA, ↓wk_store, sxB, sxP, Nat.reduceLeDiff, reduceCtorEq, Nat.reduceEqDiff, Nat.reduceAdd, Int.reduceLT, Int.reduceLE, Int.reduceEq, Nat.reduceLT, Int.reduceToNat, Int.reduceAdd, Int.reduceSub, ↓reduceIte]
                  refine bad _ hf fun q hq' => ?_
                  rw [(hq q hq').stop hst']
                  rfl
                | some cs' =>
                  rw [hst] at hS
                  obtain ⟨rfl, hF4, hb4⟩ := hS
                  obtain ⟨ov4, nv4, hbx4⟩ := hF4.box
                  simp (disch := omega) only [↓sxA, ↓wk_store, sxB, sxP, Nat.reduceLeDiff, reduceCtorEq, Nat.reduceEqDiff, Nat.reduceAdd, Int.reduceLT, Int.reduceLE, Int.reduceEq, Nat.reduceLT, Int.reduceToNat, Int.reduceAdd, Int.reduceSub, ↓reduceIte, hbx4]
                  refine kBlank (n + 5) s (by omega) s.size (s1.next + 1) 0 false (Nat.le_refl _) hbx4 ?_
                  simp (disch := omega) only [↓sxA, ↓wk_store, sxB, sxP, Nat.reduceLeDiff, reduceCtorEq, Nat.reduceEqDiff, Nat.reduceAdd, Int.reduceLT, Int.reduceLE, Int.reduceEq, Nat.reduceLT, Int.reduceToNat, Int.reduceAdd, Int.reduceSub, ↓reduceIte]
                  have hbe : blk s.data.toList s.size = s.size := blk_stop (by rw [byte_no s s.size (Nat.le_refl _)]; decide)
                  refine ⟨_, rfl, ⟨s.size, cs', rfl, Nat.le_refl _, hF4, fun hh => absurd hh (by omega), fun hh => hbad (hb4 hh), fun q hq' => ?_⟩, ?_⟩
                  · rw [(hq q hq').stop hst']
                    exact .done (fits_end (by omega) (by rw [hbe]; exact hsz))
                  · show ((s.size : Int) - (blk s.data.toList s.size : Int)).toNat < ((s.size : Int) - (blk s.data.toList p : Int)).toNat
                    rw [hbe]; omega
              | go p' cs' =>
                have hst' := hst
                rw [stepA_blk hpL] at hst'
                obtain ⟨g1, g2, g3, g4, _⟩ := stepA_go hbL hst
                rw [hst] at hS
                have hi' := hi.go hbL hst
                rcases hS with ⟨rfl, hF4, hb4⟩ | ⟨rfl, hf, k, v, hk1, hk2, hk3, hk4⟩
                · obtain ⟨ov4, nv4, hbx4⟩ := hF4.box
                  have hp' : p' ≤ s.size := by omega
                  simp (disch := omega) only [↓sxA, ↓wk_store, sxB, sxP, Nat.reduceLeDiff, reduceCtorEq, Nat.reduceEqDiff, Nat.reduceAdd, Int.reduceLT, Int.reduceLE, Int.reduceEq, Nat.reduceLT, Int.reduceToNat, Int.reduceAdd, Int.reduceSub, ↓reduceIte, hbx4]
                  refine kBlank (n + 5) s (by omega) p' (s1.next + 1) 0 false hp' hbx4 ?_
                  simp (disch := omega) only [↓sxA, ↓wk_store, sxB, sxP, Nat.reduceLeDiff, reduceCtorEq, Nat.reduceEqDiff, Nat.reduceAdd, Int.reduceLT, Int.reduceLE, Int.reduceEq, Nat.reduceLT, Int.reduceToNat, Int.reduceAdd, Int.reduceSub, ↓reduceIte]
                  obtain ⟨b3, b4⟩ := blk_le g2
                  refine ⟨_, rfl, ⟨p', cs', rfl, hp', hF4, fun _ => ⟨hi', fun k => ?_⟩, fun hh => hbad (hb4 hh), fun q hq' => (hq q hq').step hst'⟩, ?_⟩
                  · have := stepA_vl hbL hst hvl k
                    omega
                  · show ((s.size : Int) - (blk s.data.toList p' : Int)).toNat < ((s.size : Int) - (blk s.data.toList p : Int)).toNat
                    omega
                · simp (disch := omega) only [↓sxA, ↓wk_store, sxB, sxP, Nat.reduceLeDiff, reduceCtorEq, Nat.reduceEqDiff, Nat.reduceAdd, Int.reduceLT, Int.reduceLE, Int.reduceEq, Nat.reduceLT, Int.reduceToNat, Int.reduceAdd, Int.reduceSub, ↓reduceIte]
                  refine bad _ hf fun q hq' => ?_
                  exact bad_num hff ((hq q hq').step hst') g2 hi' hk1 hk2 hk3 hk4 (fun cs'' hh => Fits.len hff ((hq q hq').step hst') g2 hi' cs'' hh)
            · have hbe : blk s.data.toList p = s.size := by omega
              have hend : stepA s.data.toList l p cs = .done (some cs) := fits_end hpL (by omega)
              have hcl := hF3.len
              have hq3 : ∀ q, Fits s.data.toList l 0 (cls0 l) q → q = some cs := fun q hq' => (hq q hq').stop hend
              have la3 := hF3.its.len
              simp (disch := omega) only [↓sxA, ↓wk_store, sxB, sxP, Nat.reduceLeDiff, reduceCtorEq, Nat.reduceEqDiff, Nat.reduceAdd, Int.reduceLT, Int.reduceLE, Int.reduceEq, Nat.reduceLT, Int.reduceToNat, Int.reduceAdd, Int.reduceSub, ↓reduceIte, ↓la3]
              refine loop_rule [9, 75, 76, 77] (L3 s1 s3 va l cs) (fun vs _ => match lget vs 3 with
                  | .int _ k => ((l.length : Int) - k).toNat
                  | _ => 0) ?_ ?_ ?_
              · rfl
              · refine ⟨_, rfl, ⟨0, rfl, Nat.zero_le _, Frm.refl _, fun k hk => by omega⟩, ?_⟩
                show ((l.length : Int) - 0).toNat < 100000
                omega
              · rintro vs s4 ⟨i, rfl, hi, F4, hmust⟩
                show sx _ _ _ _ _ [(9, _), (75, _), (76, _), (77, _)] _ _ _ _
                have hF4 := hF3.keep F4
                by_cases hil : i < l.length
                · obtain ⟨bb, nv, a1, a2, a3, a4, a5, a6, a7⟩ := hF4.its.at hil
                  obtain ⟨s5, st7, hb5, n5, F5⟩ := itBox s4 l[i].mks a5
                  rw [← mkAt_lt hil] at hb5
                  have hF5 := hF4.keep F5
                  obtain ⟨ov, bn, b, s6, s7, hbx5, x1, x2, x3, x4, x5, hF6, n6, f6, y1, y2, y3, x6, hF7⟩ := hF5.open hil
                  have hmeas : ((l.length : Int) - ((i : Int) + 1)).toNat < ((l.length : Int) - i).toNat := by omega
                  cases hma : (mkAt l i).a with
                  | false =>
                    rw [hma] at hb5
                    simp (disch := omega) only [↓sxA, ↓wk_store, sxB, sxP, Nat.reduceLeDiff, reduceCtorEq, Nat.reduceEqDiff, Nat.reduceAdd, Int.reduceLT, Int.reduceLE, Int.reduceEq, Nat.reduceLT, Int.reduceToNat, Int.reduceAdd, Int.reduceSub, ↓reduceIte, ↓a1, ↓a2, ↓st7, hb5]
                    refine ⟨_, rfl, ⟨i + 1, by simp, hil, F4.trans F5, fun k hk hka => ?_⟩, hmeas⟩
                    by_cases e : k = i
                    · subst e; rw [hma] at hka; cases hka
                    · exact hmust k (by omega) hka
                  | true =>
                    rw [hma] at hb5
                    cases hset : (clAt cs i).set with
                    | true =>
                      rw [hset] at x4
                      simp (disch := omega) only [↓sxA, ↓wk_store, sxB, sxP, Nat.reduceLeDiff, reduceCtorEq, Nat.reduceEqDiff, Nat.reduceAdd, Int.reduceLT, Int.reduceLE, Int.reduceEq, Nat.reduceLT, Int.reduceToNat, Int.reduceAdd, Int.reduceSub, ↓reduceIte, ↓a1, ↓a2, ↓st7, hb5, hbx5, ↓x3, ↓x4]
                      refine ⟨_, rfl, ⟨i + 1, by simp, hil, F4.trans F5, fun k hk hka => ?_⟩, hmeas⟩
                      by_cases e : k = i
                      · subst e; exact hset
                      · exact hmust k (by omega) hka
                    | false =>
                      rw [hset] at x4
                      simp (disch := omega) only [↓sxA, ↓wk_store, sxB, sxP, Nat.reduceLeDiff, reduceCtorEq, Nat.reduceEqDiff, Nat.reduceAdd, Int.reduceLT, Int.reduceLE, Int.reduceEq, Nat.reduceLT, Int.reduceToNat, Int.reduceAdd, Int.reduceSub, ↓reduceIte, ↓a1, ↓a2, ↓st7, hb5, hbx5, ↓x3, ↓x4]
                      refine fin0 _ _ _ ⟨none, fun q hq' => ?_, .inl ⟨rfl, rfl, rfl⟩⟩ hF5.frm
                      rw [hq3 q hq']
                      unfold resA
                      simp only
                      rw [if_neg]
                      intro hok
                      have := (okAll_iff l cs hcl.symm).1 hok i hil
                      unfold okCl at this
                      have e : (l.getD i ⟨[], Mk.none⟩).mks.a = true := hma
                      rw [e, hset] at this
                      cases this
                · obtain ⟨ov, bn, g, q1, q2, q3, q4, q5, q6⟩ := hF4.body
                  simp (disch := omega) only [↓sxA, ↓wk_store, sxB, sxP, Nat.reduceLeDiff, reduceCtorEq, Nat.reduceEqDiff, Nat.reduceAdd, Int.reduceLT, Int.reduceLE, Int.reduceEq, Nat.reduceLT, Int.reduceToNat, Int.reduceAdd, Int.reduceSub, ↓reduceIte, q1]
                  refine fin0 _ _ _ ⟨some cs, fun q hq' => ?_, .inr ⟨cs, rfl, rfl, hcl, q2.weak fun _ _ _ => trivial⟩⟩ hF4.frm
                  rw [hq3 q hq']
                  unfold resA
                  simp only
                  rw [if_pos]
                  refine (okAll_iff l cs hcl.symm).2 fun k hk => ?_
                  unfold okCl
                  rw [Bool.and_eq_true]
                  constructor
                  · cases hma : (mkAt l k).a with
                    | false => show (!(mkAt l k).a || _) = true; rw [hma]; rfl
                    | true => show (!(mkAt l k).a || _) = true; rw [hma, hmust k (by omega) hma]; rfl
                  · cases hnn : (mkAt l k).n with
                    | false => show (!(mkAt l k).n || _) = true; rw [hnn]; rfl
                    | true =>
                      show (!(mkAt l k).n || _) = true
                      rw [hnn, Bool.not_true, Bool.false_or, List.all_eq_true]
                      intro v hv
                      cases hnum : numA v.data.toList with
                      | some x => rfl
                      | none => exact (hbad ⟨k, v, hk, hnn, hv, hnum⟩).elim
    · have hrd : readA s = 250 := by unfold readA; rw [if_neg hbig, if_neg hr]
      rw [hrd]
      simp (disch := omega) only [↓sxA, ↓wk_store, sxB, sxP, Nat.reduceLeDiff, reduceCtorEq, Nat.reduceEqDiff, Nat.reduceAdd, Int.reduceLT, Int.reduceLE, Int.reduceEq, Nat.reduceLT, Int.reduceToNat, Int.reduceAdd, Int.reduceSub, ↓reduceIte]
      refine h _ _ _ (.inr ⟨hle, l, 0, hT, .inr ⟨rfl, .inl ⟨fun q hq => ?_, rfl, rfl⟩⟩⟩) F1
      cases q with
      | none => rfl
      | some cs' =>
        have hsz := size_list s
        have := (hq.good (fun k hk => (fit_rest (tm_fit hT k) hk).2.1) (Nat.zero_le _) (iv0 l) cs' rfl).1
        exfalso
        refine hr ?_
        rw [List.all_eq_true]
        intro c hc
        obtain ⟨i, hi, rfl⟩ := List.getElem_of_mem hc
        exact this i (Nat.zero_le _) hi _ (List.getElem?_eq_getElem hi)
  · have hne : (e' = 0) = False := eq_false he'
    simp (disch := omega) only [↓sxA, ↓wk_store, sxB, sxP, Nat.reduceLeDiff, reduceCtorEq, Nat.reduceEqDiff, Nat.reduceAdd, Int.reduceLT, Int.reduceLE, Int.reduceEq, Nat.reduceLT, Int.reduceToNat, Int.reduceAdd, Int.reduceSub, ↓reduceIte, hne]
    exact h _ _ _ (.inr ⟨hle, l, e', hT, .inl ⟨he', rfl, rfl⟩⟩) F1
end
end Go.Proofs.YtdmemibnphcedaaGreatDoor
