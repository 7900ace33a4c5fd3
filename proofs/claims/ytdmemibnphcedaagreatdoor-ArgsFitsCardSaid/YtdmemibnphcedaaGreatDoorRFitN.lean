/-
  The chapter's fitted.
-/
import Derived.Test.YtdmemibnphcedaaGreatDoorRFitM
set_option linter.unusedSimpArgs false
set_option linter.unusedVariables false
set_option maxRecDepth 10000
set_option linter.unusedSectionVars false
namespace Go.Proofs.YtdmemibnphcedaaGreatDoor
open Go.Am
attribute [local irreducible] callO wopK ropK popK opK grpsE listE sx Runs

theorem wdBox4 (s : St) (a b c d : Value) (ha : oneCell a = true) (hb : oneCell b = true) (hc : oneCell c = true) (hd : oneCell d = true) : ∃ s4, (∀ W : Value → St → Prop, wopK (.store 4) [.pointer (some ⟨s.next, 0, none⟩), .agg #[a, b, c, d]] (s.new (.row [.string .empty, .bool false, .int .i64 0, .int .i64 0] 0 false)) W = W undef s4) ∧ s4.get s.next = some (.row [a, b, c, d] 0 false) ∧ s4.next = s.next + 1 ∧ Frm s s4 :=
  ⟨(s.new (.row [.string .empty, .bool false, .int .i64 0, .int .i64 0] 0 false)).put s.next (some (.row [a, b, c, d] 0 false)), fun W => wk_storeK (W := W) (get_new_same s (.row [.string .empty, .bool false, .int .i64 0, .int .i64 0] 0 false)) (o := 0) (k := 4) (xs := [a, b, c, d]) (by decide) rfl (by simp [ha, hb, hc, hd]), get_put_same _ _ _, rfl, (Frm.new s _).put _ (Nat.le_refl _) _⟩
/-- the block is written over -/
theorem wdPut4 {s : St} {b0 : Nat} {cs : List Value} (h : s.get b0 = some (.row cs 0 false)) (hl : cs.length = 4) (a b c d : Value) (ha : oneCell a = true) (hb : oneCell b = true) (hc : oneCell c = true) (hd : oneCell d = true) (W : Value → St → Prop) : wopK (.store 4) [.pointer (some ⟨b0, 0, none⟩), .agg #[a, b, c, d]] s W = W undef (s.put b0 (some (.row [a, b, c, d] 0 false))) := by
  have := wk_storeK (W := W) h (o := 0) (k := 4) (xs := [a, b, c, d]) (by omega) rfl (by simp [ha, hb, hc, hd])
  have e : lputs cs 0 [a, b, c, d] = [a, b, c, d] := by
    rw [lputs_z]
    have : cs.drop 4 = [] := List.drop_eq_nil_of_le (by omega)
    show [a, b, c, d] ++ cs.drop 4 = _
    rw [this]; rfl
  rw [e] at this
  exact this

theorem sign_at {L : List UInt8} {p fr to : Nat} (h : nxt L p = .wd [61] false fr to) : L[blk L p]? = some 61 := by
  unfold nxt at h
  split at h
  · cases h
  · rename_i c hc
    split at h
    · rename_i he; rw [hc, he]
    · rename_i h61
      split at h
      · split at h
        · injection h with _ h2 _ _; cases h2
        · cases h
      · split at h
        · injection h with h1 h2 h3 h4
          obtain ⟨hl, he⟩ := List.getElem?_eq_some_iff.1 hc
          rw [List.drop_eq_getElem_cons hl, he] at h1
          exfalso
          cases hp : pw (c :: L.drop (blk L p + 1)) with
          | zero => rw [hp] at h1; cases h1
          | succ m => rw [hp] at h1; simp at h1; exact h61 h1.1
        · cases h
theorem at_sign {L : List UInt8} {p : Nat} (h : L[blk L p]? = some 61) : nxt L p = .wd [61] false (blk L p) (blk L p + 1) := by
  unfold nxt; rw [h]; rfl

/-- the arguments so far -/
def F1 (s0 : St) (lv : Value) (s : ByteArray) (l : List IM) (vs : List Value) (st : St) : Prop :=
  ∃ (j : Nat) (av : Value), vs = [lv, .string s, av, .int .i64 (j : Nat)] ∧ j ≤ l.length ∧ Frm s0 st ∧ AgR (fun n => s0.next + 1 ≤ n) true st av (l.map nm0) (cls0 (l.take j))
/-- between two words -/
def F2 (s0 : St) (lv av : Value) (bn : Nat) (s : ByteArray) (l : List IM) (vs : List Value) (st : St) : Prop :=
  ∃ (p : Nat) (cs : List Cl), vs = [lv, .string s, av, .slice (some ⟨bn, 0, none⟩) l.length l.length, .int .i64 (p : Nat)] ∧ p ≤ s.size ∧ AgS s0 st av bn bn l cs ∧ Iv l cs ∧ (∀ k, (clAt cs k).vals.length ≤ p) ∧ ∀ q, Fits s.data.toList l p cs q → Fits s.data.toList l 0 (cls0 l) q

section
variable {st : St} {K : Value → St → Prop}

set_option maxHeartbeats 16000000 in
theorem kFitted (n : Nat) {lo : Nat} {lv : Value} {t s : ByteArray} {l : List IM} (hT : TmA t l 0) (ht : t.size < 80000) (hR : ItR lo st lv l) (hle : s.size ≤ 1000)
    (h : ∀ v ok st', (∃ q, Fits s.data.toList l 0 (cls0 l) q ∧ ((q = none ∧ ok = false) ∨ ∃ cs, q = some cs ∧ ok = true ∧ cs.length = l.length ∧ AgR (fun _ => True) false st' v (l.map nm0) cs)) → Frm st st' → K (.tuple #[v, .bool ok]) st') :
    callK (callO T0 orc fns 100000 (n + 3)) 34 [lv, .string s] st K := by
  refine fn_runs (fn := g34) ?_ ?_ ?_
  · rfl
  · rfl
  unfold g34
  have hsz := size_list s
  obtain ⟨hl20, _, hb⟩ := tm_bounds hT
  have hfit := tm_fit hT
  have hN : NmOk l := fun x hx => by have := (hb x hx).2.1; omega
  have hcl0 : (cls0 l).length = l.length := by simp [cls0]
  have la := hR.len
  simp (disch := omega) only [↓sxA, ↓wk_store, sxB, sxP, Nat.reduceLeDiff, reduceCtorEq, Nat.reduceEqDiff, Nat.reduceAdd, Int.reduceLT, Int.reduceLE, Int.reduceEq, Nat.reduceLT, Int.reduceToNat, Int.reduceAdd, Int.reduceSub, ↓reduceIte]
  refine loop_rule [0, 1, 6, 7] (F1 st lv s l) (fun vs _ => match lget vs 3 with
      | .int _ k => ((l.length : Int) - k).toNat
      | _ => 0) ?_ ?_ ?_
  · rfl
  · refine ⟨_, rfl, ⟨0, _, rfl, Nat.zero_le _, Frm.refl _, AgR.nil⟩, ?_⟩
    show ((l.length : Int) - 0).toNat < 100000
    omega
  · rintro vs s1 ⟨j, av, rfl, hj, G1, hag⟩
    show sx _ _ _ _ _ [(0, _), (1, _), (6, _), (7, _)] _ _ _ _
    have hR1 := hR.keep (st' := s1) G1.nx fun i _ hi => G1.old i hi
    by_cases hjl : j < l.length
    · obtain ⟨bb, nv, a1, a2, a3, a4⟩ := hR1.at2 hjl
      have hnm := (hb _ (List.getElem_mem hjl)).1
      have hnm0 : (l[j].names.map Value.string).getD 0 undef = .string (nm0 l[j]) := by
        cases hh : l[j].names with
        | nil => exact (hnm hh).elim
        | cons a r => simp [nm0, hh]
      have hnl : 0 < l[j].names.length := List.length_pos_iff.2 hnm
      have rN := a2 s1 (Frm.refl _) 0 nv rfl
      have ix : ∀ K : Value → Prop, popK (.indexAddr 1) [nv, .int .i64 0] K = K (bptr nv 0) := fun K => by
        rw [idx_cel a3 .i64 0 K (by omega) (by rw [List.length_map]; omega)]
      have ld : ∀ K : Value → Prop, ropK .load1 [bptr nv 0] s1 K = K (.string (nm0 l[j])) := fun K => by
        rw [load_cel a3 0 K (by omega) (by rw [List.length_map]; omega)]
        rw [show (0 : Int).toNat = 0 from rfl, hnm0]
      obtain ⟨okv, onx⟩ := hag.okv
      have hG1 := G1.nx
      have hlt : (cls0 (l.take j)).length = j := by simp [cls0]; omega
      have hsn := fun W => hag.snoc (W := W) (s1 := s1.new (.row [.string (nm0 l[j]), .slice none 0 0, .bool false] 0 false)) (nm := nm0 l[j]) (bytes := 48) (sb := s1.next) (gg := 0) (ro := false) (by rw [hlt, List.getD_eq_getElem?_getD, List.getElem?_map, List.getElem?_eq_getElem hjl]; rfl) (fun m hm => by show st.next + 1 ≤ m; omega) rfl (fun i hi => get_new_ne _ _ _ (by omega)) (Nat.le_refl _) (get_new_same _ _) (by omega) (by omega)
      have hmeas : ((l.length : Int) - ((j : Int) + 1)).toNat < ((l.length : Int) - j).toNat := by omega
      simp (disch := omega) only [↓sxA, ↓wk_store, sxB, sxP, Nat.reduceLeDiff, reduceCtorEq, Nat.reduceEqDiff, Nat.reduceAdd, Int.reduceLT, Int.reduceLE, Int.reduceEq, Nat.reduceLT, Int.reduceToNat, Int.reduceAdd, Int.reduceSub, ↓reduceIte, ↓la, ↓a1, ↓rN, ↓ix, ↓ld]
      refine hsn _ fun v' s5 g1 g2 g3 g4 => ?_
      have g2' : s5.next = s1.next + 2 := g2
      rw [← cls_snoc l j hjl] at g1
      simp (disch := omega) only [↓sxA, ↓wk_store, sxB, sxP, Nat.reduceLeDiff, reduceCtorEq, Nat.reduceEqDiff, Nat.reduceAdd, Int.reduceLT, Int.reduceLE, Int.reduceEq, Nat.reduceLT, Int.reduceToNat, Int.reduceAdd, Int.reduceSub, ↓reduceIte]
      exact ⟨_, rfl, ⟨j + 1, v', by simp, hjl, ⟨by omega, fun i hi => (g3 i (by omega) (by omega)).trans (G1.old i hi)⟩, g1⟩, hmeas⟩
    · have hjl' : j = l.length := by omega
      rw [hjl', List.take_length] at hag
      have hlb := fun W => wk_mkB (s := s1) (W := W) l.length (by omega)
      obtain ⟨s2, hs2⟩ : ∃ s2, s2 = s1.new (.row (replicateL l.length [.bool false]) 0 false) := ⟨_, rfl⟩
      have hbn0 : s2.get s1.next = some (.row ((cls0 l).map fun c => Value.bool c.nm) 0 false) := by rw [hs2, get_new_same, rep_cls]
      have G12 : Frm s1 s2 := by rw [hs2]; exact Frm.new _ _
      have n2 : s2.next = s1.next + 1 := by rw [hs2]; rfl
      have hS0 : AgS st s2 av s1.next s1.next l (cls0 l) := ⟨G1.trans G12, (hag.sub (ok' := fun n => st.next + 1 ≤ n ∧ n ≠ s1.next + 1 ∧ n ≠ s1.next + 1) fun n hn hl => ⟨hn, by omega, by omega⟩).keep G12.nx fun i _ hi => G12.old i hi, ⟨0, hbn0⟩, G1.nx, by omega, hcl0⟩
      simp (disch := omega) only [↓sxA, ↓wk_store, sxB, sxP, Nat.reduceLeDiff, reduceCtorEq, Nat.reduceEqDiff, Nat.reduceAdd, Int.reduceLT, Int.reduceLE, Int.reduceEq, Nat.reduceLT, Int.reduceToNat, Int.reduceAdd, Int.reduceSub, ↓reduceIte, ↓la, ↓hlb]
      rw [← hs2]
      clear hs2 hlb hbn0
      obtain ⟨bn, hbn⟩ : ∃ bn, bn = s1.next := ⟨_, rfl⟩
      rw [← hbn] at hS0 ⊢
      refine loop_rule [0, 1, 6, 8, 9] (F2 st lv av bn s l) (fun vs _ => match lget vs 4 with
          | .int _ k => ((s.size : Int) - k).toNat
          | _ => 0) ?_ ?_ ?_
      · rfl
      · refine ⟨_, rfl, ⟨0, cls0 l, rfl, Nat.zero_le _, hS0, iv0 l, fun k => ?_, fun q hq => hq⟩, ?_⟩
        · by_cases hs : (clAt (cls0 l) k).set = false
          · rw [(iv0 l).2 k hs]; exact Nat.le_refl _
          · exfalso
            refine hs ?_
            unfold clAt cls0
            rw [List.getD_eq_getElem?_getD, List.getElem?_map]
            cases l[k]? <;> rfl
        · show ((s.size : Int) - 0).toNat < 100000
          omega
      · clear hS0 G12 n2 hag hbn
        clear s2
        rintro vs s3 ⟨p, cs, rfl, hp, hS, hi, hvl, hq⟩
        show sx _ _ _ _ _ [(0, _), (1, _), (6, _), (8, _), (9, _)] _ _ _ _
        have hpL : p ≤ s.data.toList.length := by omega
        have hcl := hS.len
        -- how it ends
        have fin : ∀ v ok st', (∃ r, stepA s.data.toList l p cs = .done r ∧ ((r = none ∧ ok = false) ∨ ∃ cs', r = some cs' ∧ ok = true ∧ cs'.length = l.length ∧ AgR (fun _ => True) false st' v (l.map nm0) cs')) → Frm st st' → K (.tuple #[v, .bool ok]) st' := fun v ok st' hh hf => by
          obtain ⟨r, hr, hh⟩ := hh
          exact h v ok st' ⟨r, hq r (.done hr), hh⟩ hf
        have bad : ∀ st', stepA s.data.toList l p cs = .done none → Frm st st' → K (.tuple #[.slice none 0 0, .bool false]) st' := fun st' hr hf => fin _ _ _ ⟨none, hr, .inl ⟨rfl, rfl⟩⟩ hf
        have next : ∀ p' cs', stepA s.data.toList l p cs = .go p' cs' → p < p' ∧ p' ≤ s.size ∧ Iv l cs' ∧ (∀ k, (clAt cs' k).vals.length ≤ p') ∧ ∀ q, Fits s.data.toList l p' cs' q → Fits s.data.toList l 0 (cls0 l) q := fun p' cs' hst => by
          obtain ⟨g1, g2, _⟩ := stepA_go hpL hst
          exact ⟨g1, by omega, hi.go hpL hst, fun k => by have := stepA_vl hpL hst hvl k; omega, fun q hq' => hq q (.go hst hq')⟩
        simp (disch := omega) only [↓sxA, ↓wk_store, sxB, sxP, Nat.reduceLeDiff, reduceCtorEq, Nat.reduceEqDiff, Nat.reduceAdd, Int.reduceLT, Int.reduceLE, Int.reduceEq, Nat.reduceLT, Int.reduceToNat, Int.reduceAdd, Int.reduceSub, ↓reduceIte]
        refine kNextR (n + 1) s (by omega) p hp fun v more good s4 hw G4 => ?_
        have hS4 := (hS.keep G4).box (b0 := s4.next) (Nat.le_refl _)
        have hsb0 : st.next ≤ s4.next := hS4.frm.nx
        have hb0n : s4.next ≠ bn := by have := hS4.bn2; omega
        unfold WdR at hw
        have hop := openL_spec l cs 0 (-1) hi.1.symm
        obtain ⟨o, ho⟩ : ∃ o, o = openL l cs 0 (-1) := ⟨_, rfl⟩
        rw [← ho] at hop
        have hcase : o = -1 ∨ ∃ k : Nat, k < l.length ∧ o = (k : Int) ∧ ((mkAt l k).m = true ∨ (clAt cs k).set = false) := by
          rcases hop with e | ⟨k, k1, k2, k3⟩
          · exact .inl e
          · exact .inr ⟨k, k1, by rw [k2]; simp, k3⟩
        have vNone : o = -1 → ∀ fr ww, valA s.data.toList l fr ww cs = .done none := fun e fr ww => by
          unfold valA; rw [← ho, e, if_pos (by decide)]
        have vRest : ∀ k : Nat, o = (k : Int) → (mkAt l k).f = true → ∀ fr ww, valA s.data.toList l fr ww cs = restA s.data.toList fr k cs := fun k e hf fr ww => by
          unfold valA; rw [← ho, e, if_neg (by omega), Int.toNat_natCast, if_pos hf]
        have vBad : ∀ k : Nat, o = (k : Int) → (mkAt l k).f = false → ∀ fr, valA s.data.toList l fr none cs = .done none := fun k e hf fr => by
          unfold valA; rw [← ho, e, if_neg (by omega), Int.toNat_natCast, if_neg (by rw [hf]; decide)]
        have vWd : ∀ k : Nat, o = (k : Int) → (mkAt l k).f = false → ∀ fr w q' to, valA s.data.toList l fr (some (w, q', to)) cs = if q' = false ∧ w = [61] then .done none else .go to (upd' cs k (Cl.push (bs w))) := fun k e hf fr w q' to => by
          unfold valA; rw [← ho, e, if_neg (by omega), Int.toNat_natCast, if_neg (by rw [hf]; decide)]
        have restNo : ∀ (fr k : Nat) cs', (s.data.toList.drop fr).all prn = false → restA s.data.toList fr k cs' = .done none := fun fr k cs' hh => by
          unfold restA; rw [if_neg (fun e => by rw [hh] at e; cases e.1)]
        have restT : ∀ (fr k : Nat) cs', (s.data.toList.drop fr).all prn = true → trimE (s.data.toList.drop fr) = [] → restA s.data.toList fr k cs' = .done none := fun fr k cs' _ hh => by
          unfold restA; rw [if_neg (fun e => e.2 hh)]
        have restOk' : ∀ (fr k : Nat) cs', (s.data.toList.drop fr).all prn = true → trimE (s.data.toList.drop fr) ≠ [] → restA s.data.toList fr k cs' = .done (some (upd' cs' k (Cl.one (bs (trimE (s.data.toList.drop fr)))))) := fun fr k cs' h1 h2 => by
          unfold restA; rw [if_pos ⟨h1, h2⟩]
        cases hn : nxt s.data.toList p with
        | fin =>
          rw [hn] at hw
          obtain ⟨rfl, rfl, rfl⟩ := hw
          obtain ⟨s5, st4, hb5, n5, G5⟩ := wdBox4 s4 (.string .empty) (.bool false) (.int .i64 0) (.int .i64 0) rfl rfl rfl rfl
          have hS5 := hS4.keep G5
          have hlt : s4.next < s5.next := by omega
          have hst : stepA s.data.toList l p cs = .done (some cs) := by unfold stepA; rw [hn]
          simp (disch := omega) only [↓sxA, ↓wk_store, sxB, sxP, Nat.reduceLeDiff, reduceCtorEq, Nat.reduceEqDiff, Nat.reduceAdd, Int.reduceLT, Int.reduceLE, Int.reduceEq, Nat.reduceLT, Int.reduceToNat, Int.reduceAdd, Int.reduceSub, ↓reduceIte, ↓st4]
          exact fin _ _ _ ⟨_, hst, .inr ⟨cs, rfl, rfl, hcl, hS5.ag.weak fun _ _ _ => trivial⟩⟩ hS5.frm
        | bad fr =>
          rw [hn] at hw
          obtain ⟨rfl, rfl, ws, qq, tt, rfl⟩ := hw
          obtain ⟨m1, m2, m3, m4⟩ := nxt_bad hpL hn
          have hst : stepA s.data.toList l p cs = valA s.data.toList l fr none cs := by unfold stepA; rw [hn]
          obtain ⟨s5, st4, hb5, n5, G5⟩ := wdBox4 s4 (.string ws) (.bool qq) (.int .i64 (fr : Nat)) (.int .i64 tt) rfl rfl rfl rfl
          have hS5 := hS4.keep G5
          have hlt : s4.next < s5.next := by omega
          cases qq with
          | true =>
            simp (disch := omega) only [↓sxA, ↓wk_store, sxB, sxP, Nat.reduceLeDiff, reduceCtorEq, Nat.reduceEqDiff, Nat.reduceAdd, Int.reduceLT, Int.reduceLE, Int.reduceEq, Nat.reduceLT, Int.reduceToNat, Int.reduceAdd, Int.reduceSub, ↓reduceIte, ↓st4, hb5]
            have la5 := (hR.keep (st' := s5) (hS5.frm).nx fun i _ hi => (hS5.frm).old i hi)
            refine kOpenR (n + 1) la5 hS5.ag hcl (by omega) ?_
            rw [← ho]
            rcases hcase with rfl | ⟨k, hk, rfl, hmk⟩
            · simp (disch := omega) only [↓sxA, ↓wk_store, sxB, sxP, Nat.reduceLeDiff, reduceCtorEq, Nat.reduceEqDiff, Nat.reduceAdd, Int.reduceLT, Int.reduceLE, Int.reduceEq, Nat.reduceLT, Int.reduceToNat, Int.reduceAdd, Int.reduceSub, ↓reduceIte, hb5]
              exact bad _ (hst.trans (vNone rfl _ _)) hS5.frm
            · obtain ⟨bb, nv, a1, a2, a3, a4⟩ := la5.at2 hk
              have aR := a2 s5 (Frm.refl _) 6 (.bool (mkAt l k).f) (by rw [mkAt_lt hk]; rfl)
              cases hfR : (mkAt l k).f with
              | true =>
                rw [hfR] at aR
                have hstR := hst.trans (vRest k rfl hfR _ _)
                simp (disch := omega) only [↓sxA, ↓wk_store, sxB, sxP, Nat.reduceLeDiff, reduceCtorEq, Nat.reduceEqDiff, Nat.reduceAdd, Int.reduceLT, Int.reduceLE, Int.reduceEq, Nat.reduceLT, Int.reduceToNat, Int.reduceAdd, Int.reduceSub, ↓reduceIte, hb5, ↓a1, ↓aR]
                refine kRestR (n + 1) s (by omega) fr (by omega) (fun hall => ?_) (fun hall => ?_)
                · obtain ⟨b, s8, z1, z2, z3, z4, z5, z6⟩ := hS5.lone hk ByteArray.empty
                  obtain ⟨b', s9', w1, w2, w3, w4, w5, w6, w7, w8, w9, w10, w11⟩ := hS5.arg hk
                  obtain rfl : b' = b := by omega
                  have hl8 : k < (upd' cs k fun c => ⟨[ByteArray.empty], c.set, c.nm⟩).length := by rw [upd_len]; omega
                  obtain ⟨s9, y1, y2, y3, y4⟩ := z4.put_set hl8 Cl.put (fun c => ⟨rfl, rfl⟩) z1
                  have hF9 : Frm st s9 := ⟨by have := z6.nx; omega, fun i hi => (y4 i (by omega)).trans (z6.old i hi)⟩
                  simp (disch := omega) only [↓sxA, sxB, sxP, Nat.reduceLeDiff, reduceCtorEq, Nat.reduceEqDiff, Nat.reduceAdd, Int.reduceLT, Int.reduceLE, Int.reduceEq, Nat.reduceLT, Int.reduceToNat, Int.reduceAdd, Int.reduceSub, ↓reduceIte, hb5, ↓w6, ↓z3, ↓y1]
                  exact fin _ _ _ ⟨none, hstR.trans (restNo _ _ _ hall), .inl ⟨rfl, rfl⟩⟩ hF9
                · by_cases hT0 : trimE (s.data.toList.drop fr) = []
                  · rw [decide_eq_false (fun hh => hh hT0)]
                    obtain ⟨b, s8, z1, z2, z3, z4, z5, z6⟩ := hS5.lone hk (bs (trimE (s.data.toList.drop fr)))
                    obtain ⟨b', s9', w1, w2, w3, w4, w5, w6, w7, w8, w9, w10, w11⟩ := hS5.arg hk
                    obtain rfl : b' = b := by omega
                    have hl8 : k < (upd' cs k fun c => ⟨[(bs (trimE (s.data.toList.drop fr)))], c.set, c.nm⟩).length := by rw [upd_len]; omega
                    obtain ⟨s9, y1, y2, y3, y4⟩ := z4.put_set hl8 Cl.put (fun c => ⟨rfl, rfl⟩) z1
                    have hF9 : Frm st s9 := ⟨by have := z6.nx; omega, fun i hi => (y4 i (by omega)).trans (z6.old i hi)⟩
                    simp (disch := omega) only [↓sxA, sxB, sxP, Nat.reduceLeDiff, reduceCtorEq, Nat.reduceEqDiff, Nat.reduceAdd, Int.reduceLT, Int.reduceLE, Int.reduceEq, Nat.reduceLT, Int.reduceToNat, Int.reduceAdd, Int.reduceSub, ↓reduceIte, hb5, ↓w6, ↓z3, ↓y1]
                    exact fin _ _ _ ⟨none, hstR.trans (restT _ _ _ hall hT0), .inl ⟨rfl, rfl⟩⟩ hF9
                  · rw [decide_eq_true hT0]
                    obtain ⟨b, s8, z1, z2, z3, z4, z5, z6⟩ := hS5.lone hk (bs (trimE (s.data.toList.drop fr)))
                    obtain ⟨b', s9', w1, w2, w3, w4, w5, w6, w7, w8, w9, w10, w11⟩ := hS5.arg hk
                    obtain rfl : b' = b := by omega
                    have hl8 : k < (upd' cs k fun c => ⟨[(bs (trimE (s.data.toList.drop fr)))], c.set, c.nm⟩).length := by rw [upd_len]; omega
                    obtain ⟨s9, y1, y2, y3, y4⟩ := z4.put_set hl8 Cl.put (fun c => ⟨rfl, rfl⟩) z1
                    have hF9 : Frm st s9 := ⟨by have := z6.nx; omega, fun i hi => (y4 i (by omega)).trans (z6.old i hi)⟩
                    simp (disch := omega) only [↓sxA, sxB, sxP, Nat.reduceLeDiff, reduceCtorEq, Nat.reduceEqDiff, Nat.reduceAdd, Int.reduceLT, Int.reduceLE, Int.reduceEq, Nat.reduceLT, Int.reduceToNat, Int.reduceAdd, Int.reduceSub, ↓reduceIte, hb5, ↓w6, ↓z3, ↓y1]
                    rw [upd_upd _ _ _ _ (by omega)] at y2
                    refine fin _ _ _ ⟨_, hstR.trans (restOk' _ _ _ hall hT0), .inr ⟨_, rfl, rfl, by rw [upd_len]; omega, ?_⟩⟩ hF9
                    exact y2
              | false =>
                rw [hfR] at aR
                simp (disch := omega) only [↓sxA, ↓wk_store, sxB, sxP, Nat.reduceLeDiff, reduceCtorEq, Nat.reduceEqDiff, Nat.reduceAdd, Int.reduceLT, Int.reduceLE, Int.reduceEq, Nat.reduceLT, Int.reduceToNat, Int.reduceAdd, Int.reduceSub, ↓reduceIte, hb5, ↓a1, ↓aR]
                exact bad _ (hst.trans (vBad k rfl hfR _)) hS5.frm
          | false =>
            simp (disch := omega) only [↓sxA, ↓wk_store, sxB, sxP, Nat.reduceLeDiff, reduceCtorEq, Nat.reduceEqDiff, Nat.reduceAdd, Int.reduceLT, Int.reduceLE, Int.reduceEq, Nat.reduceLT, Int.reduceToNat, Int.reduceAdd, Int.reduceSub, ↓reduceIte, ↓st4, hb5]
            have la5 := (hR.keep (st' := s5) (hS5.frm).nx fun i _ hi => (hS5.frm).old i hi)
            refine kOpenR (n + 1) la5 hS5.ag hcl (by omega) ?_
            rw [← ho]
            rcases hcase with rfl | ⟨k, hk, rfl, hmk⟩
            · simp (disch := omega) only [↓sxA, ↓wk_store, sxB, sxP, Nat.reduceLeDiff, reduceCtorEq, Nat.reduceEqDiff, Nat.reduceAdd, Int.reduceLT, Int.reduceLE, Int.reduceEq, Nat.reduceLT, Int.reduceToNat, Int.reduceAdd, Int.reduceSub, ↓reduceIte, hb5]
              exact bad _ (hst.trans (vNone rfl _ _)) hS5.frm
            · obtain ⟨bb, nv, a1, a2, a3, a4⟩ := la5.at2 hk
              have aR := a2 s5 (Frm.refl _) 6 (.bool (mkAt l k).f) (by rw [mkAt_lt hk]; rfl)
              cases hfR : (mkAt l k).f with
              | true =>
                rw [hfR] at aR
                have hstR := hst.trans (vRest k rfl hfR _ _)
                simp (disch := omega) only [↓sxA, ↓wk_store, sxB, sxP, Nat.reduceLeDiff, reduceCtorEq, Nat.reduceEqDiff, Nat.reduceAdd, Int.reduceLT, Int.reduceLE, Int.reduceEq, Nat.reduceLT, Int.reduceToNat, Int.reduceAdd, Int.reduceSub, ↓reduceIte, hb5, ↓a1, ↓aR]
                refine kRestR (n + 1) s (by omega) fr (by omega) (fun hall => ?_) (fun hall => ?_)
                · obtain ⟨b, s8, z1, z2, z3, z4, z5, z6⟩ := hS5.lone hk ByteArray.empty
                  obtain ⟨b', s9', w1, w2, w3, w4, w5, w6, w7, w8, w9, w10, w11⟩ := hS5.arg hk
                  obtain rfl : b' = b := by omega
                  have hl8 : k < (upd' cs k fun c => ⟨[ByteArray.empty], c.set, c.nm⟩).length := by rw [upd_len]; omega
                  obtain ⟨s9, y1, y2, y3, y4⟩ := z4.put_set hl8 Cl.put (fun c => ⟨rfl, rfl⟩) z1
                  have hF9 : Frm st s9 := ⟨by have := z6.nx; omega, fun i hi => (y4 i (by omega)).trans (z6.old i hi)⟩
                  simp (disch := omega) only [↓sxA, sxB, sxP, Nat.reduceLeDiff, reduceCtorEq, Nat.reduceEqDiff, Nat.reduceAdd, Int.reduceLT, Int.reduceLE, Int.reduceEq, Nat.reduceLT, Int.reduceToNat, Int.reduceAdd, Int.reduceSub, ↓reduceIte, hb5, ↓w6, ↓z3, ↓y1]
                  exact fin _ _ _ ⟨none, hstR.trans (restNo _ _ _ hall), .inl ⟨rfl, rfl⟩⟩ hF9
                · by_cases hT0 : trimE (s.data.toList.drop fr) = []
                  · rw [decide_eq_false (fun hh => hh hT0)]
                    obtain ⟨b, s8, z1, z2, z3, z4, z5, z6⟩ := hS5.lone hk (bs (trimE (s.data.toList.drop fr)))
                    obtain ⟨b', s9', w1, w2, w3, w4, w5, w6, w7, w8, w9, w10, w11⟩ := hS5.arg hk
                    obtain rfl : b' = b := by omega
                    have hl8 : k < (upd' cs k fun c => ⟨[(bs (trimE (s.data.toList.drop fr)))], c.set, c.nm⟩).length := by rw [upd_len]; omega
                    obtain ⟨s9, y1, y2, y3, y4⟩ := z4.put_set hl8 Cl.put (fun c => ⟨rfl, rfl⟩) z1
                    have hF9 : Frm st s9 := ⟨by have := z6.nx; omega, fun i hi => (y4 i (by omega)).trans (z6.old i hi)⟩
                    simp (disch := omega) only [↓sxA, sxB, sxP, Nat.reduceLeDiff, reduceCtorEq, Nat.reduceEqDiff, Nat.reduceAdd, Int.reduceLT, Int.reduceLE, Int.reduceEq, Nat.reduceLT, Int.reduceToNat, Int.reduceAdd, Int.reduceSub, ↓reduceIte, hb5, ↓w6, ↓z3, ↓y1]
                    exact fin _ _ _ ⟨none, hstR.trans (restT _ _ _ hall hT0), .inl ⟨rfl, rfl⟩⟩ hF9
                  · rw [decide_eq_true hT0]
                    obtain ⟨b, s8, z1, z2, z3, z4, z5, z6⟩ := hS5.lone hk (bs (trimE (s.data.toList.drop fr)))
                    obtain ⟨b', s9', w1, w2, w3, w4, w5, w6, w7, w8, w9, w10, w11⟩ := hS5.arg hk
                    obtain rfl : b' = b := by omega
                    have hl8 : k < (upd' cs k fun c => ⟨[(bs (trimE (s.data.toList.drop fr)))], c.set, c.nm⟩).length := by rw [upd_len]; omega
                    obtain ⟨s9, y1, y2, y3, y4⟩ := z4.put_set hl8 Cl.put (fun c => ⟨rfl, rfl⟩) z1
                    have hF9 : Frm st s9 := ⟨by have := z6.nx; omega, fun i hi => (y4 i (by omega)).trans (z6.old i hi)⟩
                    simp (disch := omega) only [↓sxA, sxB, sxP, Nat.reduceLeDiff, reduceCtorEq, Nat.reduceEqDiff, Nat.reduceAdd, Int.reduceLT, Int.reduceLE, Int.reduceEq, Nat.reduceLT, Int.reduceToNat, Int.reduceAdd, Int.reduceSub, ↓reduceIte, hb5, ↓w6, ↓z3, ↓y1]
                    rw [upd_upd _ _ _ _ (by omega)] at y2
                    refine fin _ _ _ ⟨_, hstR.trans (restOk' _ _ _ hall hT0), .inr ⟨_, rfl, rfl, by rw [upd_len]; omega, ?_⟩⟩ hF9
                    exact y2
              | false =>
                rw [hfR] at aR
                simp (disch := omega) only [↓sxA, ↓wk_store, sxB, sxP, Nat.reduceLeDiff, reduceCtorEq, Nat.reduceEqDiff, Nat.reduceAdd, Int.reduceLT, Int.reduceLE, Int.reduceEq, Nat.reduceLT, Int.reduceToNat, Int.reduceAdd, Int.reduceSub, ↓reduceIte, hb5, ↓a1, ↓aR]
                exact bad _ (hst.trans (vBad k rfl hfR _)) hS5.frm
        | wd w q' fr to =>
          rw [hn] at hw
          obtain ⟨rfl, rfl, rfl⟩ := hw
          obtain ⟨m1, m2, m3, m4, m5⟩ := nxt_wd hpL hn
          have hwl := nxt_len hn
          have hbs : (bs w).size ≤ 80000 := by rw [bs_size]; omega
          obtain ⟨s5, st4, hb5, n5, G5⟩ := wdBox4 s4 (.string (bs w)) (.bool q') (.int .i64 (fr : Nat)) (.int .i64 (to : Nat)) rfl rfl rfl rfl
          have hS5 := hS4.keep G5
          have hlt : s4.next < s5.next := by omega
          cases hq' : q' with
          | true =>
            subst hq'
            have hst : stepA s.data.toList l p cs = valA s.data.toList l fr (some (w, true, to)) cs := by unfold stepA; rw [hn]; simp only; rw [if_neg (fun hh => by cases hh.1)]
            simp (disch := omega) only [↓sxA, ↓wk_store, sxB, sxP, Nat.reduceLeDiff, reduceCtorEq, Nat.reduceEqDiff, Nat.reduceAdd, Int.reduceLT, Int.reduceLE, Int.reduceEq, Nat.reduceLT, Int.reduceToNat, Int.reduceAdd, Int.reduceSub, ↓reduceIte, ↓st4, hb5]
            have la5 := (hR.keep (st' := s5) (hS5.frm).nx fun i _ hi => (hS5.frm).old i hi)
            refine kOpenR (n + 1) la5 hS5.ag hcl (by omega) ?_
            rw [← ho]
            rcases hcase with rfl | ⟨k, hk, rfl, hmk⟩
            · simp (disch := omega) only [↓sxA, ↓wk_store, sxB, sxP, Nat.reduceLeDiff, reduceCtorEq, Nat.reduceEqDiff, Nat.reduceAdd, Int.reduceLT, Int.reduceLE, Int.reduceEq, Nat.reduceLT, Int.reduceToNat, Int.reduceAdd, Int.reduceSub, ↓reduceIte, hb5]
              exact bad _ (hst.trans (vNone rfl _ _)) hS5.frm
            · obtain ⟨bb, nv, a1, a2, a3, a4⟩ := la5.at2 hk
              have aR := a2 s5 (Frm.refl _) 6 (.bool (mkAt l k).f) (by rw [mkAt_lt hk]; rfl)
              cases hfR : (mkAt l k).f with
              | true =>
                rw [hfR] at aR
                have hstR := hst.trans (vRest k rfl hfR _ _)
                simp (disch := omega) only [↓sxA, ↓wk_store, sxB, sxP, Nat.reduceLeDiff, reduceCtorEq, Nat.reduceEqDiff, Nat.reduceAdd, Int.reduceLT, Int.reduceLE, Int.reduceEq, Nat.reduceLT, Int.reduceToNat, Int.reduceAdd, Int.reduceSub, ↓reduceIte, hb5, ↓a1, ↓aR]
                refine kRestR (n + 1) s (by omega) fr (by omega) (fun hall => ?_) (fun hall => ?_)
                · obtain ⟨b, s8, z1, z2, z3, z4, z5, z6⟩ := hS5.lone hk ByteArray.empty
                  obtain ⟨b', s9', w1, w2, w3, w4, w5, w6, w7, w8, w9, w10, w11⟩ := hS5.arg hk
                  obtain rfl : b' = b := by omega
                  have hl8 : k < (upd' cs k fun c => ⟨[ByteArray.empty], c.set, c.nm⟩).length := by rw [upd_len]; omega
                  obtain ⟨s9, y1, y2, y3, y4⟩ := z4.put_set hl8 Cl.put (fun c => ⟨rfl, rfl⟩) z1
                  have hF9 : Frm st s9 := ⟨by have := z6.nx; omega, fun i hi => (y4 i (by omega)).trans (z6.old i hi)⟩
                  simp (disch := omega) only [↓sxA, sxB, sxP, Nat.reduceLeDiff, reduceCtorEq, Nat.reduceEqDiff, Nat.reduceAdd, Int.reduceLT, Int.reduceLE, Int.reduceEq, Nat.reduceLT, Int.reduceToNat, Int.reduceAdd, Int.reduceSub, ↓reduceIte, hb5, ↓w6, ↓z3, ↓y1]
                  exact fin _ _ _ ⟨none, hstR.trans (restNo _ _ _ hall), .inl ⟨rfl, rfl⟩⟩ hF9
                · by_cases hT0 : trimE (s.data.toList.drop fr) = []
                  · rw [decide_eq_false (fun hh => hh hT0)]
                    obtain ⟨b, s8, z1, z2, z3, z4, z5, z6⟩ := hS5.lone hk (bs (trimE (s.data.toList.drop fr)))
                    obtain ⟨b', s9', w1, w2, w3, w4, w5, w6, w7, w8, w9, w10, w11⟩ := hS5.arg hk
                    obtain rfl : b' = b := by omega
                    have hl8 : k < (upd' cs k fun c => ⟨[(bs (trimE (s.data.toList.drop fr)))], c.set, c.nm⟩).length := by rw [upd_len]; omega
                    obtain ⟨s9, y1, y2, y3, y4⟩ := z4.put_set hl8 Cl.put (fun c => ⟨rfl, rfl⟩) z1
                    have hF9 : Frm st s9 := ⟨by have := z6.nx; omega, fun i hi => (y4 i (by omega)).trans (z6.old i hi)⟩
                    simp (disch := omega) only [↓sxA, sxB, sxP, Nat.reduceLeDiff, reduceCtorEq, Nat.reduceEqDiff, Nat.reduceAdd, Int.reduceLT, Int.reduceLE, Int.reduceEq, Nat.reduceLT, Int.reduceToNat, Int.reduceAdd, Int.reduceSub, ↓reduceIte, hb5, ↓w6, ↓z3, ↓y1]
                    exact fin _ _ _ ⟨none, hstR.trans (restT _ _ _ hall hT0), .inl ⟨rfl, rfl⟩⟩ hF9
                  · rw [decide_eq_true hT0]
                    obtain ⟨b, s8, z1, z2, z3, z4, z5, z6⟩ := hS5.lone hk (bs (trimE (s.data.toList.drop fr)))
                    obtain ⟨b', s9', w1, w2, w3, w4, w5, w6, w7, w8, w9, w10, w11⟩ := hS5.arg hk
                    obtain rfl : b' = b := by omega
                    have hl8 : k < (upd' cs k fun c => ⟨[(bs (trimE (s.data.toList.drop fr)))], c.set, c.nm⟩).length := by rw [upd_len]; omega
                    obtain ⟨s9, y1, y2, y3, y4⟩ := z4.put_set hl8 Cl.put (fun c => ⟨rfl, rfl⟩) z1
                    have hF9 : Frm st s9 := ⟨by have := z6.nx; omega, fun i hi => (y4 i (by omega)).trans (z6.old i hi)⟩
                    simp (disch := omega) only [↓sxA, sxB, sxP, Nat.reduceLeDiff, reduceCtorEq, Nat.reduceEqDiff, Nat.reduceAdd, Int.reduceLT, Int.reduceLE, Int.reduceEq, Nat.reduceLT, Int.reduceToNat, Int.reduceAdd, Int.reduceSub, ↓reduceIte, hb5, ↓w6, ↓z3, ↓y1]
                    rw [upd_upd _ _ _ _ (by omega)] at y2
                    refine fin _ _ _ ⟨_, hstR.trans (restOk' _ _ _ hall hT0), .inr ⟨_, rfl, rfl, by rw [upd_len]; omega, ?_⟩⟩ hF9
                    exact y2
              | false =>
                rw [hfR] at aR
                have hstW := hst.trans (vWd k rfl hfR _ _ _ _)
                by_cases hsg : (decide (bs w = ⟨#[61]⟩) && !true) = true
                · obtain ⟨q1, q2⟩ := (sign_iff w true).1 hsg
                  have hw61 : (bs w = ⟨#[61]⟩) = True := eq_true (by rw [q2]; rfl)
                  simp (disch := omega) only [↓sxA, ↓wk_store, sxB, sxP, Nat.reduceLeDiff, reduceCtorEq, Nat.reduceEqDiff, Nat.reduceAdd, Int.reduceLT, Int.reduceLE, Int.reduceEq, Nat.reduceLT, Int.reduceToNat, Int.reduceAdd, Int.reduceSub, ↓reduceIte, hb5, ↓a1, ↓aR, hw61]
                  cases q1
                · rw [if_neg (fun hh => hsg ((sign_iff w true).2 hh))] at hstW
                  obtain ⟨g1, g2, g3, g4, g5⟩ := next _ _ hstW
                  obtain ⟨b, vv, y1, y2, y3, y4, y5⟩ := hS5.push hk (bs w) (by have := hvl k; omega) hlt
                  obtain ⟨b', s9', w1, w2, w3, w4, w5, w6, w7, w8, w9, w10, w11⟩ := hS5.arg hk
                  obtain rfl : b' = b := by omega
                  have hagn := again y3 y4
                  skip
                  by_cases hw61c : bs w = ⟨#[61]⟩
                  · have hw61 : (bs w = ⟨#[61]⟩) = True := eq_true hw61c
                    simp (disch := omega) only [↓sxA, ↓wk_store, sxB, sxP, Nat.reduceLeDiff, reduceCtorEq, Nat.reduceEqDiff, Nat.reduceAdd, Int.reduceLT, Int.reduceLE, Int.reduceEq, Nat.reduceLT, Int.reduceToNat, Int.reduceAdd, Int.reduceSub, ↓reduceIte, hb5, ↓a1, ↓aR, hw61, ↓w6, ↓y3]
                    refine (hagn _).mpr ?_
                    simp (disch := omega) only [↓sxA, ↓wk_store, sxB, sxP, Nat.reduceLeDiff, reduceCtorEq, Nat.reduceEqDiff, Nat.reduceAdd, Int.reduceLT, Int.reduceLE, Int.reduceEq, Nat.reduceLT, Int.reduceToNat, Int.reduceAdd, Int.reduceSub, ↓reduceIte]
                    refine y5 _ fun v' s7 s8 z1 z2 z3 z4 => ?_
                    obtain ⟨b'', s9, u1, u2, u3, u4, u5, u6, u7, u8, u9, u10, u11⟩ := z2.arg hk
                    obtain rfl : b'' = b' := by omega
                    have hb9 := (u11 s4.next (Ne.symm u5)).trans ((z3 _ rfl).trans hb5)
                    rw [upd_upd _ _ _ _ (by omega)] at u9
                    simp (disch := omega) only [↓sxA, ↓wk_store, sxB, sxP, Nat.reduceLeDiff, reduceCtorEq, Nat.reduceEqDiff, Nat.reduceAdd, Int.reduceLT, Int.reduceLE, Int.reduceEq, Nat.reduceLT, Int.reduceToNat, Int.reduceAdd, Int.reduceSub, ↓reduceIte, ↓w6, ↓z1, ↓u8, hb9]
                    refine ⟨_, rfl, ⟨to, _, rfl, g2, u9.unbox, g3, g4, g5⟩, ?_⟩
                    show ((s.size : Int) - (to : Int)).toNat < ((s.size : Int) - (p : Int)).toNat
                    omega
                  · have hw61 : (bs w = ⟨#[61]⟩) = False := eq_false hw61c
                    simp (disch := omega) only [↓sxA, ↓wk_store, sxB, sxP, Nat.reduceLeDiff, reduceCtorEq, Nat.reduceEqDiff, Nat.reduceAdd, Int.reduceLT, Int.reduceLE, Int.reduceEq, Nat.reduceLT, Int.reduceToNat, Int.reduceAdd, Int.reduceSub, ↓reduceIte, hb5, ↓a1, ↓aR, hw61, ↓w6, ↓y3]
                    refine (hagn _).mpr ?_
                    simp (disch := omega) only [↓sxA, ↓wk_store, sxB, sxP, Nat.reduceLeDiff, reduceCtorEq, Nat.reduceEqDiff, Nat.reduceAdd, Int.reduceLT, Int.reduceLE, Int.reduceEq, Nat.reduceLT, Int.reduceToNat, Int.reduceAdd, Int.reduceSub, ↓reduceIte]
                    refine y5 _ fun v' s7 s8 z1 z2 z3 z4 => ?_
                    obtain ⟨b'', s9, u1, u2, u3, u4, u5, u6, u7, u8, u9, u10, u11⟩ := z2.arg hk
                    obtain rfl : b'' = b' := by omega
                    have hb9 := (u11 s4.next (Ne.symm u5)).trans ((z3 _ rfl).trans hb5)
                    rw [upd_upd _ _ _ _ (by omega)] at u9
                    simp (disch := omega) only [↓sxA, ↓wk_store, sxB, sxP, Nat.reduceLeDiff, reduceCtorEq, Nat.reduceEqDiff, Nat.reduceAdd, Int.reduceLT, Int.reduceLE, Int.reduceEq, Nat.reduceLT, Int.reduceToNat, Int.reduceAdd, Int.reduceSub, ↓reduceIte, ↓w6, ↓z1, ↓u8, hb9]
                    refine ⟨_, rfl, ⟨to, _, rfl, g2, u9.unbox, g3, g4, g5⟩, ?_⟩
                    show ((s.size : Int) - (to : Int)).toNat < ((s.size : Int) - (p : Int)).toNat
                    omega
          | false =>
            subst hq'
            simp (disch := omega) only [↓sxA, ↓wk_store, sxB, sxP, Nat.reduceLeDiff, reduceCtorEq, Nat.reduceEqDiff, Nat.reduceAdd, Int.reduceLT, Int.reduceLE, Int.reduceEq, Nat.reduceLT, Int.reduceToNat, Int.reduceAdd, Int.reduceSub, ↓reduceIte, ↓st4, hb5]
            have hR5 := (hR.keep (st' := s5) hS5.frm.nx fun i _ hi => hS5.frm.old i hi)
            refine kKnown n (bs w) (by omega) hR5 (by omega) hN fun s6 G6 => ?_
            have hS6 := hS5.keep G6
            have hb6 := (G6.old _ (by omega)).trans hb5
            have hkl := knownL_lt (lowerV (bs w)) l 0
            have hkn : knownL (lowerV (bs w)) l 0 = kn l w := rfl
            rw [hkn] at hkl ⊢
            by_cases hk0 : 0 ≤ kn l w
            · obtain ⟨k, hk⟩ : ∃ k : Nat, kn l w = (k : Int) := ⟨(kn l w).toNat, (Int.toNat_of_nonneg hk0).symm⟩
              have hstN : stepA s.data.toList l p cs = namA s.data.toList l k to cs := by unfold stepA; rw [hn]; simp only; rw [if_pos ⟨trivial, hk0⟩, hk, Int.toNat_natCast]
              have hkl' : k < l.length := by
                rcases hkl with e | ⟨_, e⟩
                · rw [hk] at e; exact absurd e (by omega)
                · rw [hk] at e; simpa using e
              rw [hk]
              clear hkl hkn hk
              have hk := hkl'
              have hlt6 : s4.next < s6.next := Nat.lt_of_lt_of_le hlt G6.nx
              obtain ⟨bb, nv, a1, a2, a3, a4⟩ := hR.at2 hk
              obtain ⟨s7, x1, x2, x3, hS7, n7, f7⟩ := hS6.named hk
              obtain ⟨b, s7', w1, w2, w3, w4, w5, w6, w7, w8, w9, w10, w11⟩ := hS6.arg hk
              have hb7 := (f7 s4.next hb0n).trans hb6
              have hM := a2 s6 hS6.frm 5 (.bool (mkAt l k).m) (by rw [mkAt_lt hk]; rfl)
              have hk1 : k < cs.length := by omega
              have no : ((clAt cs k).nm = true ∨ ((clAt cs k).set = true ∧ (mkAt l k).m = false)) → stepA s.data.toList l p cs = .done none := fun hh => by rw [hstN]; unfold namA; rw [if_pos hh]
              obtain ⟨cs1, hcs1⟩ : ∃ cs1, cs1 = upd' cs k Cl.on := ⟨_, rfl⟩
              have hcl1 : cs1.length = l.length := by rw [hcs1, upd_len]; exact hcl
              have hset1 : (clAt cs1 k).set = true := by rw [hcs1, upd_same _ _ _ hk1]; rfl
              have hvl1 : (clAt cs1 k).vals = (clAt cs k).vals := by rw [hcs1, upd_same _ _ _ hk1]; rfl
              cases hnm : (clAt cs k).nm with
              | true =>
                rw [hnm] at x2
                simp (disch := omega) only [↓sxA, ↓wk_store, sxB, sxP, Nat.reduceLeDiff, reduceCtorEq, Nat.reduceEqDiff, Nat.reduceAdd, Int.reduceLT, Int.reduceLE, Int.reduceEq, Nat.reduceLT, Int.reduceToNat, Int.reduceAdd, Int.reduceSub, ↓reduceIte, hb6, ↓x1, ↓x2]
                exact bad _ (no (.inl hnm)) hS6.frm
              | false =>
                rw [hnm] at x2
                have hBAD : (clAt cs k).set = true → (mkAt l k).m = false → stepA s.data.toList l p cs = .done none := fun h1 h2 => no (.inr ⟨h1, h2⟩)
                have hcaseS : ((clAt cs k).set = true ∧ (mkAt l k).m = false) ∨ (clAt cs k).set = false ∨ ((clAt cs k).set = true ∧ (mkAt l k).m = true) := by
                  cases hs : (clAt cs k).set with
                  | false => exact .inr (.inl rfl)
                  | true =>
                    cases hm : (mkAt l k).m with
                    | true => exact .inr (.inr ⟨rfl, rfl⟩)
                    | false => exact .inl ⟨rfl, rfl⟩
                have hGood : ¬ ((clAt cs k).set = true ∧ (mkAt l k).m = false) → ((mkAt l k).s = true → stepA s.data.toList l p cs = .go to cs1) ∧ ((mkAt l k).s = false → stepA s.data.toList l p cs = namB s.data.toList l k (eqA s.data.toList to) cs1) := fun hh => by
                  have hh' : ¬ ((clAt cs k).nm = true ∨ ((clAt cs k).set = true ∧ (mkAt l k).m = false)) := by rw [hnm]; rintro (e | e); cases e; exact hh e
                  refine ⟨fun e => ?_, fun e => ?_⟩
                  · rw [hstN, hcs1]; unfold namA; rw [if_neg hh', if_pos e]
                  · rw [hstN, hcs1]; exact namA_eq _ _ _ _ _ hh' e
                rcases hcaseS with ⟨hs, hm⟩ | hs | ⟨hs, hm⟩
                · rw [hs] at w7
                  rw [hm] at hM
                  simp (disch := omega) only [↓sxA, ↓wk_store, sxB, sxP, Nat.reduceLeDiff, reduceCtorEq, Nat.reduceEqDiff, Nat.reduceAdd, Int.reduceLT, Int.reduceLE, Int.reduceEq, Nat.reduceLT, Int.reduceToNat, Int.reduceAdd, Int.reduceSub, ↓reduceIte, hb6, ↓x1, ↓x2, ↓w6, ↓w7, ↓a1, ↓hM]
                  exact bad _ (hBAD hs hm) hS6.frm
                all_goals
                  have hAB := (hGood (by rw [hs]; simp [*])).2
                  have hAS := (hGood (by rw [hs]; simp [*])).1
                  clear hGood hBAD
                  rw [hs] at w7
                  try rw [hm] at hM
                  obtain ⟨b', s8, u1, u2, u3, u4, u5, u6, u7, u8, hS8, u10, u11⟩ := hS7.arg hk
                  obtain rfl : b' = b := by omega
                  have hb8 := (u11 s4.next (Ne.symm u5)).trans hb7
                  rw [upd_upd _ _ _ _ hk1] at hS8
                  have hS8 : AgS st s8 av bn s4.next l cs1 := by rw [hcs1]; exact hS8
                  have hSw := a2 s8 hS8.frm 3 (.bool (mkAt l k).s) (by rw [mkAt_lt hk]; rfl)
                  cases hsw : (mkAt l k).s with
                  | true =>
                    rw [hsw] at hSw
                    obtain ⟨g1, g2, g3, g4, g5⟩ := next _ _ (hAS hsw)
                    simp (disch := omega) only [↓sxA, ↓wk_store, sxB, sxP, Nat.reduceLeDiff, reduceCtorEq, Nat.reduceEqDiff, Nat.reduceAdd, Int.reduceLT, Int.reduceLE, Int.reduceEq, Nat.reduceLT, Int.reduceToNat, Int.reduceAdd, Int.reduceSub, ↓reduceIte, hb6, ↓x1, ↓x2, ↓w6, ↓w7, ↓a1, ↓hM, ↓x3, hb7, ↓u8, ↓hSw]
                    refine ⟨_, rfl, ⟨to, _, rfl, g2, hS8.unbox, g3, g4, g5⟩, ?_⟩
                    show ((s.size : Int) - (to : Int)).toNat < ((s.size : Int) - (p : Int)).toNat
                    omega
                  | false =>
                    rw [hsw] at hSw
                    simp (disch := omega) only [↓sxA, ↓wk_store, sxB, sxP, Nat.reduceLeDiff, reduceCtorEq, Nat.reduceEqDiff, Nat.reduceAdd, Int.reduceLT, Int.reduceLE, Int.reduceEq, Nat.reduceLT, Int.reduceToNat, Int.reduceAdd, Int.reduceSub, ↓reduceIte, hb6, ↓x1, ↓x2, ↓w6, ↓w7, ↓a1, ↓hM, ↓x3, hb7, ↓u8, ↓hSw]
                    refine kNextR (n + 1) s (by omega) to (by omega) fun v2 more2 good2 s9 hw2 G9 => ?_
                    have hS9 := hS8.keep G9
                    have hb9 := (G9.old s4.next (by omega)).trans hb8
                    have hlt9 : s4.next < s9.next := by have := G9.nx; omega
                    have htoL : to ≤ s.data.toList.length := m4
                    have hSP := fun o => hS9.poke hsb0 hb0n o
                    unfold WdR at hw2
                    by_cases h61 : s.data.toList[blk s.data.toList to]? = some 61
                    · have heq : eqA s.data.toList to = blk s.data.toList to + 1 := by unfold eqA; rw [if_pos h61]
                      have h61s := at_sign h61
                      rw [h61s] at hw2
                      obtain ⟨rfl, rfl, rfl⟩ := hw2
                      obtain ⟨b1, hb1⟩ : ∃ b1, b1 = blk s.data.toList to := ⟨_, rfl⟩
                      have hb1l : b1 + 1 ≤ s.size := by
                        have := (List.getElem?_eq_some_iff.1 h61).1
                        omega
                      have hb1t : to ≤ b1 := by rw [hb1]; exact (blk_le htoL).1
                      rw [← hb1] at heq ⊢
                      have hsg : (bs [61] = ⟨#[61]⟩) = True := eq_true rfl
                      simp (disch := omega) only [↓sxA, ↓wk_store, sxB, sxP, Nat.reduceLeDiff, reduceCtorEq, Nat.reduceEqDiff, Nat.reduceAdd, Int.reduceLT, Int.reduceLE, Int.reduceEq, Nat.reduceLT, Int.reduceToNat, Int.reduceAdd, Int.reduceSub, ↓reduceIte, hb9, hsg]
                      obtain ⟨s10, hs10⟩ : ∃ s10, s10 = s9.put s4.next (some (.row [.string (bs [61]), .bool false, .int .i64 (b1 : Nat), .int .i64 ((b1 + 1 : Nat) : Int)] 0 false)) := ⟨_, rfl⟩
                      have hS10 : AgS st s10 av bn s4.next l cs1 := by rw [hs10]; exact hSP _
                      have hb10 : s10.get s4.next = some (.row [.string (bs [61]), .bool false, .int .i64 (b1 : Nat), .int .i64 ((b1 + 1 : Nat) : Int)] 0 false) := by rw [hs10]; exact get_put_same _ _ _
                      have n10 : s10.next = s9.next := by rw [hs10]; rfl
                      rw [← hs10]
                      clear hs10
                      refine kNextR (n + 1) s (by omega) (b1 + 1) (by omega) fun v3 more3 good3 s11 hw3 G11 => ?_
                      have hS11 := hS10.keep G11
                      have hb11 := (G11.old s4.next (by omega)).trans hb10
                      have hlt11 : s4.next < s11.next := by have := G11.nx; omega
                      have hSQ := fun o => hS11.poke hsb0 hb0n o
                      unfold WdR at hw3
                      cases hn2 : nxt s.data.toList (b1 + 1) with
                      | fin =>
                        rw [hn2] at hw3
                        obtain ⟨rfl, rfl, rfl⟩ := hw3
                        obtain ⟨sz, hsz'⟩ : ∃ sz, sz = s11.put s4.next (some (.row [.string .empty, .bool false, .int .i64 0, .int .i64 0] 0 false)) := ⟨_, rfl⟩
                        have hSz : AgS st sz av bn s4.next l cs1 := by rw [hsz']; exact hSQ _
                        have hbz0 : sz.get s4.next = some (.row [.string .empty, .bool false, .int .i64 0, .int .i64 0] 0 false) := by rw [hsz']; exact get_put_same _ _ _
                        have hltS : s4.next < sz.next := by rw [hsz']; first | exact hlt9 | exact hlt11
                        have stp : ∀ W : Value → St → Prop, wopK (.store 4) [.pointer (some ⟨s4.next, 0, none⟩), .agg #[.string .empty, .bool false, .int .i64 0, .int .i64 0]] s11 W = W undef sz := fun W => by rw [hsz']; exact wdPut4 hb11 rfl _ _ _ _ rfl rfl rfl rfl W
                        have hstR : stepA s.data.toList l p cs = .done none := by rw [hAB hsw]; unfold namB; rw [heq, hn2]
                        simp (disch := omega) only [↓sxA, sxB, sxP, Nat.reduceLeDiff, reduceCtorEq, Nat.reduceEqDiff, Nat.reduceAdd, Int.reduceLT, Int.reduceLE, Int.reduceEq, Nat.reduceLT, Int.reduceToNat, Int.reduceAdd, Int.reduceSub, ↓reduceIte, ↓stp]
                        exact bad _ hstR hSz.frm
                      | bad fr2 =>
                        rw [hn2] at hw3
                        obtain ⟨rfl, rfl, x, q, tt, rfl⟩ := hw3
                        obtain ⟨m1', m2', m3', m4'⟩ := nxt_bad (by omega) hn2
                        cases q with
                        | true =>
                          obtain ⟨sz, hsz'⟩ : ∃ sz, sz = s11.put s4.next (some (.row [.string x, .bool true, .int .i64 (fr2 : Nat), .int .i64 tt] 0 false)) := ⟨_, rfl⟩
                          have hSz : AgS st sz av bn s4.next l cs1 := by rw [hsz']; exact hSQ _
                          have hbz0 : sz.get s4.next = some (.row [.string x, .bool true, .int .i64 (fr2 : Nat), .int .i64 tt] 0 false) := by rw [hsz']; exact get_put_same _ _ _
                          have hltS : s4.next < sz.next := by rw [hsz']; first | exact hlt9 | exact hlt11
                          have stp : ∀ W : Value → St → Prop, wopK (.store 4) [.pointer (some ⟨s4.next, 0, none⟩), .agg #[.string x, .bool true, .int .i64 (fr2 : Nat), .int .i64 tt]] s11 W = W undef sz := fun W => by rw [hsz']; exact wdPut4 hb11 rfl _ _ _ _ rfl rfl rfl rfl W
                          have hF := a2 sz hSz.frm 6 (.bool (mkAt l k).f) (by rw [mkAt_lt hk]; rfl)
                          cases hfR : (mkAt l k).f with
                          | true =>
                            rw [hfR] at hF
                            have hstR : stepA s.data.toList l p cs = restA s.data.toList fr2 k cs1 := by rw [hAB hsw]; unfold namB; rw [heq, hn2]; simp only; rw [if_pos hfR]
                            simp (disch := omega) only [↓sxA, sxB, sxP, Nat.reduceLeDiff, reduceCtorEq, Nat.reduceEqDiff, Nat.reduceAdd, Int.reduceLT, Int.reduceLE, Int.reduceEq, Nat.reduceLT, Int.reduceToNat, Int.reduceAdd, Int.reduceSub, ↓reduceIte, hbz0, ↓a1, ↓hF, ↓stp]
                            refine kRestR (n + 1) s (by omega) fr2 (by omega) (fun hall => ?_) (fun hall => ?_)
                            · obtain ⟨b, s8, z1, z2, z3, z4, z5, z6⟩ := hSz.lone hk ByteArray.empty
                              obtain ⟨b', s9', w1, w2, w3, w4, w5, w6, w7, w8, w9, w10, w11⟩ := hSz.arg hk
                              obtain rfl : b' = b := by omega
                              simp (disch := omega) only [↓sxA, sxB, sxP, Nat.reduceLeDiff, reduceCtorEq, Nat.reduceEqDiff, Nat.reduceAdd, Int.reduceLT, Int.reduceLE, Int.reduceEq, Nat.reduceLT, Int.reduceToNat, Int.reduceAdd, Int.reduceSub, ↓reduceIte, hbz0, ↓w6, ↓z3]
                              exact fin _ _ _ ⟨none, hstR.trans (restNo _ _ _ hall), .inl ⟨rfl, rfl⟩⟩ z6
                            · by_cases hT0 : trimE (s.data.toList.drop fr2) = []
                              · rw [decide_eq_false (fun hh => hh hT0)]
                                obtain ⟨b, s8, z1, z2, z3, z4, z5, z6⟩ := hSz.lone hk (bs (trimE (s.data.toList.drop fr2)))
                                obtain ⟨b', s9', w1, w2, w3, w4, w5, w6, w7, w8, w9, w10, w11⟩ := hSz.arg hk
                                obtain rfl : b' = b := by omega
                                simp (disch := omega) only [↓sxA, sxB, sxP, Nat.reduceLeDiff, reduceCtorEq, Nat.reduceEqDiff, Nat.reduceAdd, Int.reduceLT, Int.reduceLE, Int.reduceEq, Nat.reduceLT, Int.reduceToNat, Int.reduceAdd, Int.reduceSub, ↓reduceIte, hbz0, ↓w6, ↓z3]
                                exact fin _ _ _ ⟨none, hstR.trans (restT _ _ _ hall hT0), .inl ⟨rfl, rfl⟩⟩ z6
                              · rw [decide_eq_true hT0]
                                obtain ⟨b, s8, z1, z2, z3, z4, z5, z6⟩ := hSz.lone hk (bs (trimE (s.data.toList.drop fr2)))
                                obtain ⟨b', s9', w1, w2, w3, w4, w5, w6, w7, w8, w9, w10, w11⟩ := hSz.arg hk
                                obtain rfl : b' = b := by omega
                                simp (disch := omega) only [↓sxA, sxB, sxP, Nat.reduceLeDiff, reduceCtorEq, Nat.reduceEqDiff, Nat.reduceAdd, Int.reduceLT, Int.reduceLE, Int.reduceEq, Nat.reduceLT, Int.reduceToNat, Int.reduceAdd, Int.reduceSub, ↓reduceIte, hbz0, ↓w6, ↓z3]
                                refine fin _ _ _ ⟨_, hstR.trans (restOk' _ _ _ hall hT0), .inr ⟨_, rfl, rfl, by rw [upd_len]; omega, ?_⟩⟩ z6
                                have e : (upd' cs1 k fun c => (⟨[(bs (trimE (s.data.toList.drop fr2)))], c.set, c.nm⟩ : Cl)) = upd' cs1 k (Cl.one (bs (trimE (s.data.toList.drop fr2)))) := by
                                  unfold upd' Cl.one
                                  simp only [hset1]
                                rw [← e]
                                exact z4
                          | false =>
                            rw [hfR] at hF
                            have hstR : stepA s.data.toList l p cs = .done none := by rw [hAB hsw]; unfold namB; rw [heq, hn2]; simp only; rw [if_neg (by rw [hfR]; decide)]
                            simp (disch := omega) only [↓sxA, sxB, sxP, Nat.reduceLeDiff, reduceCtorEq, Nat.reduceEqDiff, Nat.reduceAdd, Int.reduceLT, Int.reduceLE, Int.reduceEq, Nat.reduceLT, Int.reduceToNat, Int.reduceAdd, Int.reduceSub, ↓reduceIte, hbz0, ↓a1, ↓hF, ↓stp]
                            exact bad _ hstR hSz.frm
                        | false =>
                          obtain ⟨sz, hsz'⟩ : ∃ sz, sz = s11.put s4.next (some (.row [.string x, .bool false, .int .i64 (fr2 : Nat), .int .i64 tt] 0 false)) := ⟨_, rfl⟩
                          have hSz : AgS st sz av bn s4.next l cs1 := by rw [hsz']; exact hSQ _
                          have hbz0 : sz.get s4.next = some (.row [.string x, .bool false, .int .i64 (fr2 : Nat), .int .i64 tt] 0 false) := by rw [hsz']; exact get_put_same _ _ _
                          have hltS : s4.next < sz.next := by rw [hsz']; first | exact hlt9 | exact hlt11
                          have stp : ∀ W : Value → St → Prop, wopK (.store 4) [.pointer (some ⟨s4.next, 0, none⟩), .agg #[.string x, .bool false, .int .i64 (fr2 : Nat), .int .i64 tt]] s11 W = W undef sz := fun W => by rw [hsz']; exact wdPut4 hb11 rfl _ _ _ _ rfl rfl rfl rfl W
                          have hF := a2 sz hSz.frm 6 (.bool (mkAt l k).f) (by rw [mkAt_lt hk]; rfl)
                          cases hfR : (mkAt l k).f with
                          | true =>
                            rw [hfR] at hF
                            have hstR : stepA s.data.toList l p cs = restA s.data.toList fr2 k cs1 := by rw [hAB hsw]; unfold namB; rw [heq, hn2]; simp only; rw [if_pos hfR]
                            simp (disch := omega) only [↓sxA, sxB, sxP, Nat.reduceLeDiff, reduceCtorEq, Nat.reduceEqDiff, Nat.reduceAdd, Int.reduceLT, Int.reduceLE, Int.reduceEq, Nat.reduceLT, Int.reduceToNat, Int.reduceAdd, Int.reduceSub, ↓reduceIte, hbz0, ↓a1, ↓hF, ↓stp]
                            refine kRestR (n + 1) s (by omega) fr2 (by omega) (fun hall => ?_) (fun hall => ?_)
                            · obtain ⟨b, s8, z1, z2, z3, z4, z5, z6⟩ := hSz.lone hk ByteArray.empty
                              obtain ⟨b', s9', w1, w2, w3, w4, w5, w6, w7, w8, w9, w10, w11⟩ := hSz.arg hk
                              obtain rfl : b' = b := by omega
                              simp (disch := omega) only [↓sxA, sxB, sxP, Nat.reduceLeDiff, reduceCtorEq, Nat.reduceEqDiff, Nat.reduceAdd, Int.reduceLT, Int.reduceLE, Int.reduceEq, Nat.reduceLT, Int.reduceToNat, Int.reduceAdd, Int.reduceSub, ↓reduceIte, hbz0, ↓w6, ↓z3]
                              exact fin _ _ _ ⟨none, hstR.trans (restNo _ _ _ hall), .inl ⟨rfl, rfl⟩⟩ z6
                            · by_cases hT0 : trimE (s.data.toList.drop fr2) = []
                              · rw [decide_eq_false (fun hh => hh hT0)]
                                obtain ⟨b, s8, z1, z2, z3, z4, z5, z6⟩ := hSz.lone hk (bs (trimE (s.data.toList.drop fr2)))
                                obtain ⟨b', s9', w1, w2, w3, w4, w5, w6, w7, w8, w9, w10, w11⟩ := hSz.arg hk
                                obtain rfl : b' = b := by omega
                                simp (disch := omega) only [↓sxA, sxB, sxP, Nat.reduceLeDiff, reduceCtorEq, Nat.reduceEqDiff, Nat.reduceAdd, Int.reduceLT, Int.reduceLE, Int.reduceEq, Nat.reduceLT, Int.reduceToNat, Int.reduceAdd, Int.reduceSub, ↓reduceIte, hbz0, ↓w6, ↓z3]
                                exact fin _ _ _ ⟨none, hstR.trans (restT _ _ _ hall hT0), .inl ⟨rfl, rfl⟩⟩ z6
                              · rw [decide_eq_true hT0]
                                obtain ⟨b, s8, z1, z2, z3, z4, z5, z6⟩ := hSz.lone hk (bs (trimE (s.data.toList.drop fr2)))
                                obtain ⟨b', s9', w1, w2, w3, w4, w5, w6, w7, w8, w9, w10, w11⟩ := hSz.arg hk
                                obtain rfl : b' = b := by omega
                                simp (disch := omega) only [↓sxA, sxB, sxP, Nat.reduceLeDiff, reduceCtorEq, Nat.reduceEqDiff, Nat.reduceAdd, Int.reduceLT, Int.reduceLE, Int.reduceEq, Nat.reduceLT, Int.reduceToNat, Int.reduceAdd, Int.reduceSub, ↓reduceIte, hbz0, ↓w6, ↓z3]
                                refine fin _ _ _ ⟨_, hstR.trans (restOk' _ _ _ hall hT0), .inr ⟨_, rfl, rfl, by rw [upd_len]; omega, ?_⟩⟩ z6
                                have e : (upd' cs1 k fun c => (⟨[(bs (trimE (s.data.toList.drop fr2)))], c.set, c.nm⟩ : Cl)) = upd' cs1 k (Cl.one (bs (trimE (s.data.toList.drop fr2)))) := by
                                  unfold upd' Cl.one
                                  simp only [hset1]
                                rw [← e]
                                exact z4
                          | false =>
                            rw [hfR] at hF
                            have hstR : stepA s.data.toList l p cs = .done none := by rw [hAB hsw]; unfold namB; rw [heq, hn2]; simp only; rw [if_neg (by rw [hfR]; decide)]
                            simp (disch := omega) only [↓sxA, sxB, sxP, Nat.reduceLeDiff, reduceCtorEq, Nat.reduceEqDiff, Nat.reduceAdd, Int.reduceLT, Int.reduceLE, Int.reduceEq, Nat.reduceLT, Int.reduceToNat, Int.reduceAdd, Int.reduceSub, ↓reduceIte, hbz0, ↓a1, ↓hF, ↓stp]
                            exact bad _ hstR hSz.frm
                      | wd w2 q2 fr2 to2 =>
                        rw [hn2] at hw3
                        obtain ⟨rfl, rfl, rfl⟩ := hw3
                        obtain ⟨m1', m2', m3', m4', m5'⟩ := nxt_wd (by omega) hn2
                        have hwl2 := nxt_len hn2
                        cases q2 with
                        | true =>
                          obtain ⟨sz, hsz'⟩ : ∃ sz, sz = s11.put s4.next (some (.row [.string (bs w2), .bool true, .int .i64 (fr2 : Nat), .int .i64 (to2 : Nat)] 0 false)) := ⟨_, rfl⟩
                          have hSz : AgS st sz av bn s4.next l cs1 := by rw [hsz']; exact hSQ _
                          have hbz0 : sz.get s4.next = some (.row [.string (bs w2), .bool true, .int .i64 (fr2 : Nat), .int .i64 (to2 : Nat)] 0 false) := by rw [hsz']; exact get_put_same _ _ _
                          have hltS : s4.next < sz.next := by rw [hsz']; first | exact hlt9 | exact hlt11
                          have stp : ∀ W : Value → St → Prop, wopK (.store 4) [.pointer (some ⟨s4.next, 0, none⟩), .agg #[.string (bs w2), .bool true, .int .i64 (fr2 : Nat), .int .i64 (to2 : Nat)]] s11 W = W undef sz := fun W => by rw [hsz']; exact wdPut4 hb11 rfl _ _ _ _ rfl rfl rfl rfl W
                          have hF := a2 sz hSz.frm 6 (.bool (mkAt l k).f) (by rw [mkAt_lt hk]; rfl)
                          cases hfR : (mkAt l k).f with
                          | true =>
                            rw [hfR] at hF
                            have hstR : stepA s.data.toList l p cs = restA s.data.toList fr2 k cs1 := by rw [hAB hsw]; unfold namB; rw [heq, hn2]; simp only; rw [if_pos hfR]
                            by_cases hw61c : bs w2 = ⟨#[61]⟩
                            · have hw61 : (bs w2 = ⟨#[61]⟩) = True := eq_true hw61c
                              simp (disch := omega) only [↓sxA, sxB, sxP, Nat.reduceLeDiff, reduceCtorEq, Nat.reduceEqDiff, Nat.reduceAdd, Int.reduceLT, Int.reduceLE, Int.reduceEq, Nat.reduceLT, Int.reduceToNat, Int.reduceAdd, Int.reduceSub, ↓reduceIte, hbz0, ↓a1, ↓hF, hw61, ↓stp]
                              refine kRestR (n + 1) s (by omega) fr2 (by omega) (fun hall => ?_) (fun hall => ?_)
                              · obtain ⟨b, s8, z1, z2, z3, z4, z5, z6⟩ := hSz.lone hk ByteArray.empty
                                obtain ⟨b', s9', w1, w2, w3, w4, w5, w6, w7, w8, w9, w10, w11⟩ := hSz.arg hk
                                obtain rfl : b' = b := by omega
                                simp (disch := omega) only [↓sxA, sxB, sxP, Nat.reduceLeDiff, reduceCtorEq, Nat.reduceEqDiff, Nat.reduceAdd, Int.reduceLT, Int.reduceLE, Int.reduceEq, Nat.reduceLT, Int.reduceToNat, Int.reduceAdd, Int.reduceSub, ↓reduceIte, hbz0, ↓w6, ↓z3]
                                exact fin _ _ _ ⟨none, hstR.trans (restNo _ _ _ hall), .inl ⟨rfl, rfl⟩⟩ z6
                              · by_cases hT0 : trimE (s.data.toList.drop fr2) = []
                                · rw [decide_eq_false (fun hh => hh hT0)]
                                  obtain ⟨b, s8, z1, z2, z3, z4, z5, z6⟩ := hSz.lone hk (bs (trimE (s.data.toList.drop fr2)))
                                  obtain ⟨b', s9', w1, w2, w3, w4, w5, w6, w7, w8, w9, w10, w11⟩ := hSz.arg hk
                                  obtain rfl : b' = b := by omega
                                  simp (disch := omega) only [↓sxA, sxB, sxP, Nat.reduceLeDiff, reduceCtorEq, Nat.reduceEqDiff, Nat.reduceAdd, Int.reduceLT, Int.reduceLE, Int.reduceEq, Nat.reduceLT, Int.reduceToNat, Int.reduceAdd, Int.reduceSub, ↓reduceIte, hbz0, ↓w6, ↓z3]
                                  exact fin _ _ _ ⟨none, hstR.trans (restT _ _ _ hall hT0), .inl ⟨rfl, rfl⟩⟩ z6
                                · rw [decide_eq_true hT0]
                                  obtain ⟨b, s8, z1, z2, z3, z4, z5, z6⟩ := hSz.lone hk (bs (trimE (s.data.toList.drop fr2)))
                                  obtain ⟨b', s9', w1, w2, w3, w4, w5, w6, w7, w8, w9, w10, w11⟩ := hSz.arg hk
                                  obtain rfl : b' = b := by omega
                                  simp (disch := omega) only [↓sxA, sxB, sxP, Nat.reduceLeDiff, reduceCtorEq, Nat.reduceEqDiff, Nat.reduceAdd, Int.reduceLT, Int.reduceLE, Int.reduceEq, Nat.reduceLT, Int.reduceToNat, Int.reduceAdd, Int.reduceSub, ↓reduceIte, hbz0, ↓w6, ↓z3]
                                  refine fin _ _ _ ⟨_, hstR.trans (restOk' _ _ _ hall hT0), .inr ⟨_, rfl, rfl, by rw [upd_len]; omega, ?_⟩⟩ z6
                                  have e : (upd' cs1 k fun c => (⟨[(bs (trimE (s.data.toList.drop fr2)))], c.set, c.nm⟩ : Cl)) = upd' cs1 k (Cl.one (bs (trimE (s.data.toList.drop fr2)))) := by
                                    unfold upd' Cl.one
                                    simp only [hset1]
                                  rw [← e]
                                  exact z4
                            · have hw61 : (bs w2 = ⟨#[61]⟩) = False := eq_false hw61c
                              simp (disch := omega) only [↓sxA, sxB, sxP, Nat.reduceLeDiff, reduceCtorEq, Nat.reduceEqDiff, Nat.reduceAdd, Int.reduceLT, Int.reduceLE, Int.reduceEq, Nat.reduceLT, Int.reduceToNat, Int.reduceAdd, Int.reduceSub, ↓reduceIte, hbz0, ↓a1, ↓hF, hw61, ↓stp]
                              refine kRestR (n + 1) s (by omega) fr2 (by omega) (fun hall => ?_) (fun hall => ?_)
                              · obtain ⟨b, s8, z1, z2, z3, z4, z5, z6⟩ := hSz.lone hk ByteArray.empty
                                obtain ⟨b', s9', w1, w2, w3, w4, w5, w6, w7, w8, w9, w10, w11⟩ := hSz.arg hk
                                obtain rfl : b' = b := by omega
                                simp (disch := omega) only [↓sxA, sxB, sxP, Nat.reduceLeDiff, reduceCtorEq, Nat.reduceEqDiff, Nat.reduceAdd, Int.reduceLT, Int.reduceLE, Int.reduceEq, Nat.reduceLT, Int.reduceToNat, Int.reduceAdd, Int.reduceSub, ↓reduceIte, hbz0, ↓w6, ↓z3]
                                exact fin _ _ _ ⟨none, hstR.trans (restNo _ _ _ hall), .inl ⟨rfl, rfl⟩⟩ z6
                              · by_cases hT0 : trimE (s.data.toList.drop fr2) = []
                                · rw [decide_eq_false (fun hh => hh hT0)]
                                  obtain ⟨b, s8, z1, z2, z3, z4, z5, z6⟩ := hSz.lone hk (bs (trimE (s.data.toList.drop fr2)))
                                  obtain ⟨b', s9', w1, w2, w3, w4, w5, w6, w7, w8, w9, w10, w11⟩ := hSz.arg hk
                                  obtain rfl : b' = b := by omega
                                  simp (disch := omega) only [↓sxA, sxB, sxP, Nat.reduceLeDiff, reduceCtorEq, Nat.reduceEqDiff, Nat.reduceAdd, Int.reduceLT, Int.reduceLE, Int.reduceEq, Nat.reduceLT, Int.reduceToNat, Int.reduceAdd, Int.reduceSub, ↓reduceIte, hbz0, ↓w6, ↓z3]
                                  exact fin _ _ _ ⟨none, hstR.trans (restT _ _ _ hall hT0), .inl ⟨rfl, rfl⟩⟩ z6
                                · rw [decide_eq_true hT0]
                                  obtain ⟨b, s8, z1, z2, z3, z4, z5, z6⟩ := hSz.lone hk (bs (trimE (s.data.toList.drop fr2)))
                                  obtain ⟨b', s9', w1, w2, w3, w4, w5, w6, w7, w8, w9, w10, w11⟩ := hSz.arg hk
                                  obtain rfl : b' = b := by omega
                                  simp (disch := omega) only [↓sxA, sxB, sxP, Nat.reduceLeDiff, reduceCtorEq, Nat.reduceEqDiff, Nat.reduceAdd, Int.reduceLT, Int.reduceLE, Int.reduceEq, Nat.reduceLT, Int.reduceToNat, Int.reduceAdd, Int.reduceSub, ↓reduceIte, hbz0, ↓w6, ↓z3]
                                  refine fin _ _ _ ⟨_, hstR.trans (restOk' _ _ _ hall hT0), .inr ⟨_, rfl, rfl, by rw [upd_len]; omega, ?_⟩⟩ z6
                                  have e : (upd' cs1 k fun c => (⟨[(bs (trimE (s.data.toList.drop fr2)))], c.set, c.nm⟩ : Cl)) = upd' cs1 k (Cl.one (bs (trimE (s.data.toList.drop fr2)))) := by
                                    unfold upd' Cl.one
                                    simp only [hset1]
                                  rw [← e]
                                  exact z4
                          | false =>
                            rw [hfR] at hF
                            have hstW : stepA s.data.toList l p cs = if true = false ∧ w2 = [61] then .done none else .go to2 (upd' cs1 k (Cl.push (bs w2))) := by rw [hAB hsw]; unfold namB; rw [heq, hn2]; simp only; rw [if_neg (by rw [hfR]; decide)]
                            by_cases hw61c : bs w2 = ⟨#[61]⟩
                            · have hw61 : (bs w2 = ⟨#[61]⟩) = True := eq_true hw61c
                              rw [if_neg (fun hh => by cases hh.1)] at hstW
                              obtain ⟨g1, g2, g3, g4, g5⟩ := next _ _ hstW
                              obtain ⟨b, vv, y1, y2, y3, y4, y5⟩ := hSz.push hk (bs w2) (by rw [hvl1]; have := hvl k; omega) hltS
                              obtain ⟨b', s9', w1, w2', w3, w4, w5, w6, w7, w8, w9, w10, w11⟩ := hSz.arg hk
                              obtain rfl : b' = b := by omega
                              have hagn := again y3 y4
                              simp (disch := omega) only [↓sxA, sxB, sxP, Nat.reduceLeDiff, reduceCtorEq, Nat.reduceEqDiff, Nat.reduceAdd, Int.reduceLT, Int.reduceLE, Int.reduceEq, Nat.reduceLT, Int.reduceToNat, Int.reduceAdd, Int.reduceSub, ↓reduceIte, hbz0, ↓a1, ↓hF, hw61, ↓w6, ↓y3, ↓stp]
                              refine (hagn _).mpr ?_
                              simp (disch := omega) only [↓sxA, ↓wk_store, sxB, sxP, Nat.reduceLeDiff, reduceCtorEq, Nat.reduceEqDiff, Nat.reduceAdd, Int.reduceLT, Int.reduceLE, Int.reduceEq, Nat.reduceLT, Int.reduceToNat, Int.reduceAdd, Int.reduceSub, ↓reduceIte]
                              refine y5 _ fun v' s7' s8' z1 z2 z3 z4 => ?_
                              have hbz := (z3 _ rfl).trans hbz0
                              have e : upd' cs1 k (Cl.vl (bs w2)) = upd' cs1 k (Cl.push (bs w2)) := by
                                unfold upd' Cl.vl Cl.push
                                rw [hset1]
                              rw [e] at z2
                              simp (disch := omega) only [↓sxA, ↓wk_store, sxB, sxP, Nat.reduceLeDiff, reduceCtorEq, Nat.reduceEqDiff, Nat.reduceAdd, Int.reduceLT, Int.reduceLE, Int.reduceEq, Nat.reduceLT, Int.reduceToNat, Int.reduceAdd, Int.reduceSub, ↓reduceIte, ↓w6, ↓z1, hbz]
                              refine ⟨_, rfl, ⟨to2, _, rfl, g2, z2.unbox, g3, g4, g5⟩, ?_⟩
                              show ((s.size : Int) - (to2 : Int)).toNat < ((s.size : Int) - (p : Int)).toNat
                              omega
                            · have hw61 : (bs w2 = ⟨#[61]⟩) = False := eq_false hw61c
                              rw [if_neg (fun hh => by cases hh.1)] at hstW
                              obtain ⟨g1, g2, g3, g4, g5⟩ := next _ _ hstW
                              obtain ⟨b, vv, y1, y2, y3, y4, y5⟩ := hSz.push hk (bs w2) (by rw [hvl1]; have := hvl k; omega) hltS
                              obtain ⟨b', s9', w1, w2', w3, w4, w5, w6, w7, w8, w9, w10, w11⟩ := hSz.arg hk
                              obtain rfl : b' = b := by omega
                              have hagn := again y3 y4
                              simp (disch := omega) only [↓sxA, sxB, sxP, Nat.reduceLeDiff, reduceCtorEq, Nat.reduceEqDiff, Nat.reduceAdd, Int.reduceLT, Int.reduceLE, Int.reduceEq, Nat.reduceLT, Int.reduceToNat, Int.reduceAdd, Int.reduceSub, ↓reduceIte, hbz0, ↓a1, ↓hF, hw61, ↓w6, ↓y3, ↓stp]
                              refine (hagn _).mpr ?_
                              simp (disch := omega) only [↓sxA, ↓wk_store, sxB, sxP, Nat.reduceLeDiff, reduceCtorEq, Nat.reduceEqDiff, Nat.reduceAdd, Int.reduceLT, Int.reduceLE, Int.reduceEq, Nat.reduceLT, Int.reduceToNat, Int.reduceAdd, Int.reduceSub, ↓reduceIte]
                              refine y5 _ fun v' s7' s8' z1 z2 z3 z4 => ?_
                              have hbz := (z3 _ rfl).trans hbz0
                              have e : upd' cs1 k (Cl.vl (bs w2)) = upd' cs1 k (Cl.push (bs w2)) := by
                                unfold upd' Cl.vl Cl.push
                                rw [hset1]
                              rw [e] at z2
                              simp (disch := omega) only [↓sxA, ↓wk_store, sxB, sxP, Nat.reduceLeDiff, reduceCtorEq, Nat.reduceEqDiff, Nat.reduceAdd, Int.reduceLT, Int.reduceLE, Int.reduceEq, Nat.reduceLT, Int.reduceToNat, Int.reduceAdd, Int.reduceSub, ↓reduceIte, ↓w6, ↓z1, hbz]
                              refine ⟨_, rfl, ⟨to2, _, rfl, g2, z2.unbox, g3, g4, g5⟩, ?_⟩
                              show ((s.size : Int) - (to2 : Int)).toNat < ((s.size : Int) - (p : Int)).toNat
                              omega
                        | false =>
                          obtain ⟨sz, hsz'⟩ : ∃ sz, sz = s11.put s4.next (some (.row [.string (bs w2), .bool false, .int .i64 (fr2 : Nat), .int .i64 (to2 : Nat)] 0 false)) := ⟨_, rfl⟩
                          have hSz : AgS st sz av bn s4.next l cs1 := by rw [hsz']; exact hSQ _
                          have hbz0 : sz.get s4.next = some (.row [.string (bs w2), .bool false, .int .i64 (fr2 : Nat), .int .i64 (to2 : Nat)] 0 false) := by rw [hsz']; exact get_put_same _ _ _
                          have hltS : s4.next < sz.next := by rw [hsz']; first | exact hlt9 | exact hlt11
                          have stp : ∀ W : Value → St → Prop, wopK (.store 4) [.pointer (some ⟨s4.next, 0, none⟩), .agg #[.string (bs w2), .bool false, .int .i64 (fr2 : Nat), .int .i64 (to2 : Nat)]] s11 W = W undef sz := fun W => by rw [hsz']; exact wdPut4 hb11 rfl _ _ _ _ rfl rfl rfl rfl W
                          have hF := a2 sz hSz.frm 6 (.bool (mkAt l k).f) (by rw [mkAt_lt hk]; rfl)
                          cases hfR : (mkAt l k).f with
                          | true =>
                            rw [hfR] at hF
                            have hstR : stepA s.data.toList l p cs = restA s.data.toList fr2 k cs1 := by rw [hAB hsw]; unfold namB; rw [heq, hn2]; simp only; rw [if_pos hfR]
                            by_cases hw61c : bs w2 = ⟨#[61]⟩
                            · have hw61 : (bs w2 = ⟨#[61]⟩) = True := eq_true hw61c
                              simp (disch := omega) only [↓sxA, sxB, sxP, Nat.reduceLeDiff, reduceCtorEq, Nat.reduceEqDiff, Nat.reduceAdd, Int.reduceLT, Int.reduceLE, Int.reduceEq, Nat.reduceLT, Int.reduceToNat, Int.reduceAdd, Int.reduceSub, ↓reduceIte, hbz0, ↓a1, ↓hF, hw61, ↓stp]
                              refine kRestR (n + 1) s (by omega) fr2 (by omega) (fun hall => ?_) (fun hall => ?_)
                              · obtain ⟨b, s8, z1, z2, z3, z4, z5, z6⟩ := hSz.lone hk ByteArray.empty
                                obtain ⟨b', s9', w1, w2, w3, w4, w5, w6, w7, w8, w9, w10, w11⟩ := hSz.arg hk
                                obtain rfl : b' = b := by omega
                                simp (disch := omega) only [↓sxA, sxB, sxP, Nat.reduceLeDiff, reduceCtorEq, Nat.reduceEqDiff, Nat.reduceAdd, Int.reduceLT, Int.reduceLE, Int.reduceEq, Nat.reduceLT, Int.reduceToNat, Int.reduceAdd, Int.reduceSub, ↓reduceIte, hbz0, ↓w6, ↓z3]
                                exact fin _ _ _ ⟨none, hstR.trans (restNo _ _ _ hall), .inl ⟨rfl, rfl⟩⟩ z6
                              · by_cases hT0 : trimE (s.data.toList.drop fr2) = []
                                · rw [decide_eq_false (fun hh => hh hT0)]
                                  obtain ⟨b, s8, z1, z2, z3, z4, z5, z6⟩ := hSz.lone hk (bs (trimE (s.data.toList.drop fr2)))
                                  obtain ⟨b', s9', w1, w2, w3, w4, w5, w6, w7, w8, w9, w10, w11⟩ := hSz.arg hk
                                  obtain rfl : b' = b := by omega
                                  simp (disch := omega) only [↓sxA, sxB, sxP, Nat.reduceLeDiff, reduceCtorEq, Nat.reduceEqDiff, Nat.reduceAdd, Int.reduceLT, Int.reduceLE, Int.reduceEq, Nat.reduceLT, Int.reduceToNat, Int.reduceAdd, Int.reduceSub, ↓reduceIte, hbz0, ↓w6, ↓z3]
                                  exact fin _ _ _ ⟨none, hstR.trans (restT _ _ _ hall hT0), .inl ⟨rfl, rfl⟩⟩ z6
                                · rw [decide_eq_true hT0]
                                  obtain ⟨b, s8, z1, z2, z3, z4, z5, z6⟩ := hSz.lone hk (bs (trimE (s.data.toList.drop fr2)))
                                  obtain ⟨b', s9', w1, w2, w3, w4, w5, w6, w7, w8, w9, w10, w11⟩ := hSz.arg hk
                                  obtain rfl : b' = b := by omega
                                  simp (disch := omega) only [↓sxA, sxB, sxP, Nat.reduceLeDiff, reduceCtorEq, Nat.reduceEqDiff, Nat.reduceAdd, Int.reduceLT, Int.reduceLE, Int.reduceEq, Nat.reduceLT, Int.reduceToNat, Int.reduceAdd, Int.reduceSub, ↓reduceIte, hbz0, ↓w6, ↓z3]
                                  refine fin _ _ _ ⟨_, hstR.trans (restOk' _ _ _ hall hT0), .inr ⟨_, rfl, rfl, by rw [upd_len]; omega, ?_⟩⟩ z6
                                  have e : (upd' cs1 k fun c => (⟨[(bs (trimE (s.data.toList.drop fr2)))], c.set, c.nm⟩ : Cl)) = upd' cs1 k (Cl.one (bs (trimE (s.data.toList.drop fr2)))) := by
                                    unfold upd' Cl.one
                                    simp only [hset1]
                                  rw [← e]
                                  exact z4
                            · have hw61 : (bs w2 = ⟨#[61]⟩) = False := eq_false hw61c
                              simp (disch := omega) only [↓sxA, sxB, sxP, Nat.reduceLeDiff, reduceCtorEq, Nat.reduceEqDiff, Nat.reduceAdd, Int.reduceLT, Int.reduceLE, Int.reduceEq, Nat.reduceLT, Int.reduceToNat, Int.reduceAdd, Int.reduceSub, ↓reduceIte, hbz0, ↓a1, ↓hF, hw61, ↓stp]
                              refine kRestR (n + 1) s (by omega) fr2 (by omega) (fun hall => ?_) (fun hall => ?_)
                              · obtain ⟨b, s8, z1, z2, z3, z4, z5, z6⟩ := hSz.lone hk ByteArray.empty
                                obtain ⟨b', s9', w1, w2, w3, w4, w5, w6, w7, w8, w9, w10, w11⟩ := hSz.arg hk
                                obtain rfl : b' = b := by omega
                                simp (disch := omega) only [↓sxA, sxB, sxP, Nat.reduceLeDiff, reduceCtorEq, Nat.reduceEqDiff, Nat.reduceAdd, Int.reduceLT, Int.reduceLE, Int.reduceEq, Nat.reduceLT, Int.reduceToNat, Int.reduceAdd, Int.reduceSub, ↓reduceIte, hbz0, ↓w6, ↓z3]
                                exact fin _ _ _ ⟨none, hstR.trans (restNo _ _ _ hall), .inl ⟨rfl, rfl⟩⟩ z6
                              · by_cases hT0 : trimE (s.data.toList.drop fr2) = []
                                · rw [decide_eq_false (fun hh => hh hT0)]
                                  obtain ⟨b, s8, z1, z2, z3, z4, z5, z6⟩ := hSz.lone hk (bs (trimE (s.data.toList.drop fr2)))
                                  obtain ⟨b', s9', w1, w2, w3, w4, w5, w6, w7, w8, w9, w10, w11⟩ := hSz.arg hk
                                  obtain rfl : b' = b := by omega
                                  simp (disch := omega) only [↓sxA, sxB, sxP, Nat.reduceLeDiff, reduceCtorEq, Nat.reduceEqDiff, Nat.reduceAdd, Int.reduceLT, Int.reduceLE, Int.reduceEq, Nat.reduceLT, Int.reduceToNat, Int.reduceAdd, Int.reduceSub, ↓reduceIte, hbz0, ↓w6, ↓z3]
                                  exact fin _ _ _ ⟨none, hstR.trans (restT _ _ _ hall hT0), .inl ⟨rfl, rfl⟩⟩ z6
                                · rw [decide_eq_true hT0]
                                  obtain ⟨b, s8, z1, z2, z3, z4, z5, z6⟩ := hSz.lone hk (bs (trimE (s.data.toList.drop fr2)))
                                  obtain ⟨b', s9', w1, w2, w3, w4, w5, w6, w7, w8, w9, w10, w11⟩ := hSz.arg hk
                                  obtain rfl : b' = b := by omega
                                  simp (disch := omega) only [↓sxA, sxB, sxP, Nat.reduceLeDiff, reduceCtorEq, Nat.reduceEqDiff, Nat.reduceAdd, Int.reduceLT, Int.reduceLE, Int.reduceEq, Nat.reduceLT, Int.reduceToNat, Int.reduceAdd, Int.reduceSub, ↓reduceIte, hbz0, ↓w6, ↓z3]
                                  refine fin _ _ _ ⟨_, hstR.trans (restOk' _ _ _ hall hT0), .inr ⟨_, rfl, rfl, by rw [upd_len]; omega, ?_⟩⟩ z6
                                  have e : (upd' cs1 k fun c => (⟨[(bs (trimE (s.data.toList.drop fr2)))], c.set, c.nm⟩ : Cl)) = upd' cs1 k (Cl.one (bs (trimE (s.data.toList.drop fr2)))) := by
                                    unfold upd' Cl.one
                                    simp only [hset1]
                                  rw [← e]
                                  exact z4
                          | false =>
                            rw [hfR] at hF
                            have hstW : stepA s.data.toList l p cs = if false = false ∧ w2 = [61] then .done none else .go to2 (upd' cs1 k (Cl.push (bs w2))) := by rw [hAB hsw]; unfold namB; rw [heq, hn2]; simp only; rw [if_neg (by rw [hfR]; decide)]
                            by_cases hw61c : bs w2 = ⟨#[61]⟩
                            · have hw61 : (bs w2 = ⟨#[61]⟩) = True := eq_true hw61c
                              simp (disch := omega) only [↓sxA, sxB, sxP, Nat.reduceLeDiff, reduceCtorEq, Nat.reduceEqDiff, Nat.reduceAdd, Int.reduceLT, Int.reduceLE, Int.reduceEq, Nat.reduceLT, Int.reduceToNat, Int.reduceAdd, Int.reduceSub, ↓reduceIte, hbz0, ↓a1, ↓hF, hw61, ↓stp]
                              exact bad _ (hstW.trans (if_pos ⟨rfl, bs_inj hw61c⟩)) hSz.frm
                            · have hw61 : (bs w2 = ⟨#[61]⟩) = False := eq_false hw61c
                              rw [if_neg (fun hh => hw61c (by rw [hh.2]; rfl))] at hstW
                              obtain ⟨g1, g2, g3, g4, g5⟩ := next _ _ hstW
                              obtain ⟨b, vv, y1, y2, y3, y4, y5⟩ := hSz.push hk (bs w2) (by rw [hvl1]; have := hvl k; omega) hltS
                              obtain ⟨b', s9', w1, w2', w3, w4, w5, w6, w7, w8, w9, w10, w11⟩ := hSz.arg hk
                              obtain rfl : b' = b := by omega
                              have hagn := again y3 y4
                              simp (disch := omega) only [↓sxA, sxB, sxP, Nat.reduceLeDiff, reduceCtorEq, Nat.reduceEqDiff, Nat.reduceAdd, Int.reduceLT, Int.reduceLE, Int.reduceEq, Nat.reduceLT, Int.reduceToNat, Int.reduceAdd, Int.reduceSub, ↓reduceIte, hbz0, ↓a1, ↓hF, hw61, ↓w6, ↓y3, ↓stp]
                              refine (hagn _).mpr ?_
                              simp (disch := omega) only [↓sxA, ↓wk_store, sxB, sxP, Nat.reduceLeDiff, reduceCtorEq, Nat.reduceEqDiff, Nat.reduceAdd, Int.reduceLT, Int.reduceLE, Int.reduceEq, Nat.reduceLT, Int.reduceToNat, Int.reduceAdd, Int.reduceSub, ↓reduceIte]
                              refine y5 _ fun v' s7' s8' z1 z2 z3 z4 => ?_
                              have hbz := (z3 _ rfl).trans hbz0
                              have e : upd' cs1 k (Cl.vl (bs w2)) = upd' cs1 k (Cl.push (bs w2)) := by
                                unfold upd' Cl.vl Cl.push
                                rw [hset1]
                              rw [e] at z2
                              simp (disch := omega) only [↓sxA, ↓wk_store, sxB, sxP, Nat.reduceLeDiff, reduceCtorEq, Nat.reduceEqDiff, Nat.reduceAdd, Int.reduceLT, Int.reduceLE, Int.reduceEq, Nat.reduceLT, Int.reduceToNat, Int.reduceAdd, Int.reduceSub, ↓reduceIte, ↓w6, ↓z1, hbz]
                              refine ⟨_, rfl, ⟨to2, _, rfl, g2, z2.unbox, g3, g4, g5⟩, ?_⟩
                              show ((s.size : Int) - (to2 : Int)).toNat < ((s.size : Int) - (p : Int)).toNat
                              omega
                    · have heq : eqA s.data.toList to = to := by unfold eqA; rw [if_neg h61]
                      cases hn2 : nxt s.data.toList to with
                      | fin =>
                        rw [hn2] at hw2
                        obtain ⟨rfl, rfl, rfl⟩ := hw2
                        obtain ⟨sz, hsz'⟩ : ∃ sz, sz = s9.put s4.next (some (.row [.string .empty, .bool false, .int .i64 0, .int .i64 0] 0 false)) := ⟨_, rfl⟩
                        have hSz : AgS st sz av bn s4.next l cs1 := by rw [hsz']; exact hSP _
                        have hbz0 : sz.get s4.next = some (.row [.string .empty, .bool false, .int .i64 0, .int .i64 0] 0 false) := by rw [hsz']; exact get_put_same _ _ _
                        have hltS : s4.next < sz.next := by rw [hsz']; first | exact hlt9 | exact hlt11
                        have stp : ∀ W : Value → St → Prop, wopK (.store 4) [.pointer (some ⟨s4.next, 0, none⟩), .agg #[.string .empty, .bool false, .int .i64 0, .int .i64 0]] s9 W = W undef sz := fun W => by rw [hsz']; exact wdPut4 hb9 rfl _ _ _ _ rfl rfl rfl rfl W
                        have hstR : stepA s.data.toList l p cs = .done none := by rw [hAB hsw]; unfold namB; rw [heq, hn2]
                        simp (disch := omega) only [↓sxA, sxB, sxP, Nat.reduceLeDiff, reduceCtorEq, Nat.reduceEqDiff, Nat.reduceAdd, Int.reduceLT, Int.reduceLE, Int.reduceEq, Nat.reduceLT, Int.reduceToNat, Int.reduceAdd, Int.reduceSub, ↓reduceIte, ↓stp]
                        exact bad _ hstR hSz.frm
                      | bad fr2 =>
                        rw [hn2] at hw2
                        obtain ⟨rfl, rfl, x, q, tt, rfl⟩ := hw2
                        obtain ⟨m1', m2', m3', m4'⟩ := nxt_bad htoL hn2
                        cases q with
                        | true =>
                          obtain ⟨sz, hsz'⟩ : ∃ sz, sz = s9.put s4.next (some (.row [.string x, .bool true, .int .i64 (fr2 : Nat), .int .i64 tt] 0 false)) := ⟨_, rfl⟩
                          have hSz : AgS st sz av bn s4.next l cs1 := by rw [hsz']; exact hSP _
                          have hbz0 : sz.get s4.next = some (.row [.string x, .bool true, .int .i64 (fr2 : Nat), .int .i64 tt] 0 false) := by rw [hsz']; exact get_put_same _ _ _
                          have hltS : s4.next < sz.next := by rw [hsz']; first | exact hlt9 | exact hlt11
                          have stp : ∀ W : Value → St → Prop, wopK (.store 4) [.pointer (some ⟨s4.next, 0, none⟩), .agg #[.string x, .bool true, .int .i64 (fr2 : Nat), .int .i64 tt]] s9 W = W undef sz := fun W => by rw [hsz']; exact wdPut4 hb9 rfl _ _ _ _ rfl rfl rfl rfl W
                          have hF := a2 sz hSz.frm 6 (.bool (mkAt l k).f) (by rw [mkAt_lt hk]; rfl)
                          cases hfR : (mkAt l k).f with
                          | true =>
                            rw [hfR] at hF
                            have hstR : stepA s.data.toList l p cs = restA s.data.toList fr2 k cs1 := by rw [hAB hsw]; unfold namB; rw [heq, hn2]; simp only; rw [if_pos hfR]
                            simp (disch := omega) only [↓sxA, sxB, sxP, Nat.reduceLeDiff, reduceCtorEq, Nat.reduceEqDiff, Nat.reduceAdd, Int.reduceLT, Int.reduceLE, Int.reduceEq, Nat.reduceLT, Int.reduceToNat, Int.reduceAdd, Int.reduceSub, ↓reduceIte, hbz0, ↓a1, ↓hF, ↓stp]
                            refine kRestR (n + 1) s (by omega) fr2 (by omega) (fun hall => ?_) (fun hall => ?_)
                            · obtain ⟨b, s8, z1, z2, z3, z4, z5, z6⟩ := hSz.lone hk ByteArray.empty
                              obtain ⟨b', s9', w1, w2, w3, w4, w5, w6, w7, w8, w9, w10, w11⟩ := hSz.arg hk
                              obtain rfl : b' = b := by omega
                              simp (disch := omega) only [↓sxA, sxB, sxP, Nat.reduceLeDiff, reduceCtorEq, Nat.reduceEqDiff, Nat.reduceAdd, Int.reduceLT, Int.reduceLE, Int.reduceEq, Nat.reduceLT, Int.reduceToNat, Int.reduceAdd, Int.reduceSub, ↓reduceIte, hbz0, ↓w6, ↓z3]
                              exact fin _ _ _ ⟨none, hstR.trans (restNo _ _ _ hall), .inl ⟨rfl, rfl⟩⟩ z6
                            · by_cases hT0 : trimE (s.data.toList.drop fr2) = []
                              · rw [decide_eq_false (fun hh => hh hT0)]
                                obtain ⟨b, s8, z1, z2, z3, z4, z5, z6⟩ := hSz.lone hk (bs (trimE (s.data.toList.drop fr2)))
                                obtain ⟨b', s9', w1, w2, w3, w4, w5, w6, w7, w8, w9, w10, w11⟩ := hSz.arg hk
                                obtain rfl : b' = b := by omega
                                simp (disch := omega) only [↓sxA, sxB, sxP, Nat.reduceLeDiff, reduceCtorEq, Nat.reduceEqDiff, Nat.reduceAdd, Int.reduceLT, Int.reduceLE, Int.reduceEq, Nat.reduceLT, Int.reduceToNat, Int.reduceAdd, Int.reduceSub, ↓reduceIte, hbz0, ↓w6, ↓z3]
                                exact fin _ _ _ ⟨none, hstR.trans (restT _ _ _ hall hT0), .inl ⟨rfl, rfl⟩⟩ z6
                              · rw [decide_eq_true hT0]
                                obtain ⟨b, s8, z1, z2, z3, z4, z5, z6⟩ := hSz.lone hk (bs (trimE (s.data.toList.drop fr2)))
                                obtain ⟨b', s9', w1, w2, w3, w4, w5, w6, w7, w8, w9, w10, w11⟩ := hSz.arg hk
                                obtain rfl : b' = b := by omega
                                simp (disch := omega) only [↓sxA, sxB, sxP, Nat.reduceLeDiff, reduceCtorEq, Nat.reduceEqDiff, Nat.reduceAdd, Int.reduceLT, Int.reduceLE, Int.reduceEq, Nat.reduceLT, Int.reduceToNat, Int.reduceAdd, Int.reduceSub, ↓reduceIte, hbz0, ↓w6, ↓z3]
                                refine fin _ _ _ ⟨_, hstR.trans (restOk' _ _ _ hall hT0), .inr ⟨_, rfl, rfl, by rw [upd_len]; omega, ?_⟩⟩ z6
                                have e : (upd' cs1 k fun c => (⟨[(bs (trimE (s.data.toList.drop fr2)))], c.set, c.nm⟩ : Cl)) = upd' cs1 k (Cl.one (bs (trimE (s.data.toList.drop fr2)))) := by
                                  unfold upd' Cl.one
                                  simp only [hset1]
                                rw [← e]
                                exact z4
                          | false =>
                            rw [hfR] at hF
                            have hstR : stepA s.data.toList l p cs = .done none := by rw [hAB hsw]; unfold namB; rw [heq, hn2]; simp only; rw [if_neg (by rw [hfR]; decide)]
                            simp (disch := omega) only [↓sxA, sxB, sxP, Nat.reduceLeDiff, reduceCtorEq, Nat.reduceEqDiff, Nat.reduceAdd, Int.reduceLT, Int.reduceLE, Int.reduceEq, Nat.reduceLT, Int.reduceToNat, Int.reduceAdd, Int.reduceSub, ↓reduceIte, hbz0, ↓a1, ↓hF, ↓stp]
                            exact bad _ hstR hSz.frm
                        | false =>
                          obtain ⟨sz, hsz'⟩ : ∃ sz, sz = s9.put s4.next (some (.row [.string x, .bool false, .int .i64 (fr2 : Nat), .int .i64 tt] 0 false)) := ⟨_, rfl⟩
                          have hSz : AgS st sz av bn s4.next l cs1 := by rw [hsz']; exact hSP _
                          have hbz0 : sz.get s4.next = some (.row [.string x, .bool false, .int .i64 (fr2 : Nat), .int .i64 tt] 0 false) := by rw [hsz']; exact get_put_same _ _ _
                          have hltS : s4.next < sz.next := by rw [hsz']; first | exact hlt9 | exact hlt11
                          have stp : ∀ W : Value → St → Prop, wopK (.store 4) [.pointer (some ⟨s4.next, 0, none⟩), .agg #[.string x, .bool false, .int .i64 (fr2 : Nat), .int .i64 tt]] s9 W = W undef sz := fun W => by rw [hsz']; exact wdPut4 hb9 rfl _ _ _ _ rfl rfl rfl rfl W
                          have hF := a2 sz hSz.frm 6 (.bool (mkAt l k).f) (by rw [mkAt_lt hk]; rfl)
                          cases hfR : (mkAt l k).f with
                          | true =>
                            rw [hfR] at hF
                            have hstR : stepA s.data.toList l p cs = restA s.data.toList fr2 k cs1 := by rw [hAB hsw]; unfold namB; rw [heq, hn2]; simp only; rw [if_pos hfR]
                            simp (disch := omega) only [↓sxA, sxB, sxP, Nat.reduceLeDiff, reduceCtorEq, Nat.reduceEqDiff, Nat.reduceAdd, Int.reduceLT, Int.reduceLE, Int.reduceEq, Nat.reduceLT, Int.reduceToNat, Int.reduceAdd, Int.reduceSub, ↓reduceIte, hbz0, ↓a1, ↓hF, ↓stp]
                            refine kRestR (n + 1) s (by omega) fr2 (by omega) (fun hall => ?_) (fun hall => ?_)
                            · obtain ⟨b, s8, z1, z2, z3, z4, z5, z6⟩ := hSz.lone hk ByteArray.empty
                              obtain ⟨b', s9', w1, w2, w3, w4, w5, w6, w7, w8, w9, w10, w11⟩ := hSz.arg hk
                              obtain rfl : b' = b := by omega
                              simp (disch := omega) only [↓sxA, sxB, sxP, Nat.reduceLeDiff, reduceCtorEq, Nat.reduceEqDiff, Nat.reduceAdd, Int.reduceLT, Int.reduceLE, Int.reduceEq, Nat.reduceLT, Int.reduceToNat, Int.reduceAdd, Int.reduceSub, ↓reduceIte, hbz0, ↓w6, ↓z3]
                              exact fin _ _ _ ⟨none, hstR.trans (restNo _ _ _ hall), .inl ⟨rfl, rfl⟩⟩ z6
                            · by_cases hT0 : trimE (s.data.toList.drop fr2) = []
                              · rw [decide_eq_false (fun hh => hh hT0)]
                                obtain ⟨b, s8, z1, z2, z3, z4, z5, z6⟩ := hSz.lone hk (bs (trimE (s.data.toList.drop fr2)))
                                obtain ⟨b', s9', w1, w2, w3, w4, w5, w6, w7, w8, w9, w10, w11⟩ := hSz.arg hk
                                obtain rfl : b' = b := by omega
                                simp (disch := omega) only [↓sxA, sxB, sxP, Nat.reduceLeDiff, reduceCtorEq, Nat.reduceEqDiff, Nat.reduceAdd, Int.reduceLT, Int.reduceLE, Int.reduceEq, Nat.reduceLT, Int.reduceToNat, Int.reduceAdd, Int.reduceSub, ↓reduceIte, hbz0, ↓w6, ↓z3]
                                exact fin _ _ _ ⟨none, hstR.trans (restT _ _ _ hall hT0), .inl ⟨rfl, rfl⟩⟩ z6
                              · rw [decide_eq_true hT0]
                                obtain ⟨b, s8, z1, z2, z3, z4, z5, z6⟩ := hSz.lone hk (bs (trimE (s.data.toList.drop fr2)))
                                obtain ⟨b', s9', w1, w2, w3, w4, w5, w6, w7, w8, w9, w10, w11⟩ := hSz.arg hk
                                obtain rfl : b' = b := by omega
                                simp (disch := omega) only [↓sxA, sxB, sxP, Nat.reduceLeDiff, reduceCtorEq, Nat.reduceEqDiff, Nat.reduceAdd, Int.reduceLT, Int.reduceLE, Int.reduceEq, Nat.reduceLT, Int.reduceToNat, Int.reduceAdd, Int.reduceSub, ↓reduceIte, hbz0, ↓w6, ↓z3]
                                refine fin _ _ _ ⟨_, hstR.trans (restOk' _ _ _ hall hT0), .inr ⟨_, rfl, rfl, by rw [upd_len]; omega, ?_⟩⟩ z6
                                have e : (upd' cs1 k fun c => (⟨[(bs (trimE (s.data.toList.drop fr2)))], c.set, c.nm⟩ : Cl)) = upd' cs1 k (Cl.one (bs (trimE (s.data.toList.drop fr2)))) := by
                                  unfold upd' Cl.one
                                  simp only [hset1]
                                rw [← e]
                                exact z4
                          | false =>
                            rw [hfR] at hF
                            have hstR : stepA s.data.toList l p cs = .done none := by rw [hAB hsw]; unfold namB; rw [heq, hn2]; simp only; rw [if_neg (by rw [hfR]; decide)]
                            simp (disch := omega) only [↓sxA, sxB, sxP, Nat.reduceLeDiff, reduceCtorEq, Nat.reduceEqDiff, Nat.reduceAdd, Int.reduceLT, Int.reduceLE, Int.reduceEq, Nat.reduceLT, Int.reduceToNat, Int.reduceAdd, Int.reduceSub, ↓reduceIte, hbz0, ↓a1, ↓hF, ↓stp]
                            exact bad _ hstR hSz.frm
                      | wd w2 q2 fr2 to2 =>
                        rw [hn2] at hw2
                        obtain ⟨rfl, rfl, rfl⟩ := hw2
                        obtain ⟨m1', m2', m3', m4', m5'⟩ := nxt_wd htoL hn2
                        have hwl2 := nxt_len hn2
                        cases q2 with
                        | true =>
                          obtain ⟨sz, hsz'⟩ : ∃ sz, sz = s9.put s4.next (some (.row [.string (bs w2), .bool true, .int .i64 (fr2 : Nat), .int .i64 (to2 : Nat)] 0 false)) := ⟨_, rfl⟩
                          have hSz : AgS st sz av bn s4.next l cs1 := by rw [hsz']; exact hSP _
                          have hbz0 : sz.get s4.next = some (.row [.string (bs w2), .bool true, .int .i64 (fr2 : Nat), .int .i64 (to2 : Nat)] 0 false) := by rw [hsz']; exact get_put_same _ _ _
                          have hltS : s4.next < sz.next := by rw [hsz']; first | exact hlt9 | exact hlt11
                          have stp : ∀ W : Value → St → Prop, wopK (.store 4) [.pointer (some ⟨s4.next, 0, none⟩), .agg #[.string (bs w2), .bool true, .int .i64 (fr2 : Nat), .int .i64 (to2 : Nat)]] s9 W = W undef sz := fun W => by rw [hsz']; exact wdPut4 hb9 rfl _ _ _ _ rfl rfl rfl rfl W
                          have hF := a2 sz hSz.frm 6 (.bool (mkAt l k).f) (by rw [mkAt_lt hk]; rfl)
                          cases hfR : (mkAt l k).f with
                          | true =>
                            rw [hfR] at hF
                            have hstR : stepA s.data.toList l p cs = restA s.data.toList fr2 k cs1 := by rw [hAB hsw]; unfold namB; rw [heq, hn2]; simp only; rw [if_pos hfR]
                            by_cases hw61c : bs w2 = ⟨#[61]⟩
                            · have hw61 : (bs w2 = ⟨#[61]⟩) = True := eq_true hw61c
                              simp (disch := omega) only [↓sxA, sxB, sxP, Nat.reduceLeDiff, reduceCtorEq, Nat.reduceEqDiff, Nat.reduceAdd, Int.reduceLT, Int.reduceLE, Int.reduceEq, Nat.reduceLT, Int.reduceToNat, Int.reduceAdd, Int.reduceSub, ↓reduceIte, hbz0, ↓a1, ↓hF, hw61, ↓stp]
                              refine kRestR (n + 1) s (by omega) fr2 (by omega) (fun hall => ?_) (fun hall => ?_)
                              · obtain ⟨b, s8, z1, z2, z3, z4, z5, z6⟩ := hSz.lone hk ByteArray.empty
                                obtain ⟨b', s9', w1, w2, w3, w4, w5, w6, w7, w8, w9, w10, w11⟩ := hSz.arg hk
                                obtain rfl : b' = b := by omega
                                simp (disch := omega) only [↓sxA, sxB, sxP, Nat.reduceLeDiff, reduceCtorEq, Nat.reduceEqDiff, Nat.reduceAdd, Int.reduceLT, Int.reduceLE, Int.reduceEq, Nat.reduceLT, Int.reduceToNat, Int.reduceAdd, Int.reduceSub, ↓reduceIte, hbz0, ↓w6, ↓z3]
                                exact fin _ _ _ ⟨none, hstR.trans (restNo _ _ _ hall), .inl ⟨rfl, rfl⟩⟩ z6
                              · by_cases hT0 : trimE (s.data.toList.drop fr2) = []
                                · rw [decide_eq_false (fun hh => hh hT0)]
                                  obtain ⟨b, s8, z1, z2, z3, z4, z5, z6⟩ := hSz.lone hk (bs (trimE (s.data.toList.drop fr2)))
                                  obtain ⟨b', s9', w1, w2, w3, w4, w5, w6, w7, w8, w9, w10, w11⟩ := hSz.arg hk
                                  obtain rfl : b' = b := by omega
                                  simp (disch := omega) only [↓sxA, sxB, sxP, Nat.reduceLeDiff, reduceCtorEq, Nat.reduceEqDiff, Nat.reduceAdd, Int.reduceLT, Int.reduceLE, Int.reduceEq, Nat.reduceLT, Int.reduceToNat, Int.reduceAdd, Int.reduceSub, ↓reduceIte, hbz0, ↓w6, ↓z3]
                                  exact fin _ _ _ ⟨none, hstR.trans (restT _ _ _ hall hT0), .inl ⟨rfl, rfl⟩⟩ z6
                                · rw [decide_eq_true hT0]
                                  obtain ⟨b, s8, z1, z2, z3, z4, z5, z6⟩ := hSz.lone hk (bs (trimE (s.data.toList.drop fr2)))
                                  obtain ⟨b', s9', w1, w2, w3, w4, w5, w6, w7, w8, w9, w10, w11⟩ := hSz.arg hk
                                  obtain rfl : b' = b := by omega
                                  simp (disch := omega) only [↓sxA, sxB, sxP, Nat.reduceLeDiff, reduceCtorEq, Nat.reduceEqDiff, Nat.reduceAdd, Int.reduceLT, Int.reduceLE, Int.reduceEq, Nat.reduceLT, Int.reduceToNat, Int.reduceAdd, Int.reduceSub, ↓reduceIte, hbz0, ↓w6, ↓z3]
                                  refine fin _ _ _ ⟨_, hstR.trans (restOk' _ _ _ hall hT0), .inr ⟨_, rfl, rfl, by rw [upd_len]; omega, ?_⟩⟩ z6
                                  have e : (upd' cs1 k fun c => (⟨[(bs (trimE (s.data.toList.drop fr2)))], c.set, c.nm⟩ : Cl)) = upd' cs1 k (Cl.one (bs (trimE (s.data.toList.drop fr2)))) := by
                                    unfold upd' Cl.one
                                    simp only [hset1]
                                  rw [← e]
                                  exact z4
                            · have hw61 : (bs w2 = ⟨#[61]⟩) = False := eq_false hw61c
                              simp (disch := omega) only [↓sxA, sxB, sxP, Nat.reduceLeDiff, reduceCtorEq, Nat.reduceEqDiff, Nat.reduceAdd, Int.reduceLT, Int.reduceLE, Int.reduceEq, Nat.reduceLT, Int.reduceToNat, Int.reduceAdd, Int.reduceSub, ↓reduceIte, hbz0, ↓a1, ↓hF, hw61, ↓stp]
                              refine kRestR (n + 1) s (by omega) fr2 (by omega) (fun hall => ?_) (fun hall => ?_)
                              · obtain ⟨b, s8, z1, z2, z3, z4, z5, z6⟩ := hSz.lone hk ByteArray.empty
                                obtain ⟨b', s9', w1, w2, w3, w4, w5, w6, w7, w8, w9, w10, w11⟩ := hSz.arg hk
                                obtain rfl : b' = b := by omega
                                simp (disch := omega) only [↓sxA, sxB, sxP, Nat.reduceLeDiff, reduceCtorEq, Nat.reduceEqDiff, Nat.reduceAdd, Int.reduceLT, Int.reduceLE, Int.reduceEq, Nat.reduceLT, Int.reduceToNat, Int.reduceAdd, Int.reduceSub, ↓reduceIte, hbz0, ↓w6, ↓z3]
                                exact fin _ _ _ ⟨none, hstR.trans (restNo _ _ _ hall), .inl ⟨rfl, rfl⟩⟩ z6
                              · by_cases hT0 : trimE (s.data.toList.drop fr2) = []
                                · rw [decide_eq_false (fun hh => hh hT0)]
                                  obtain ⟨b, s8, z1, z2, z3, z4, z5, z6⟩ := hSz.lone hk (bs (trimE (s.data.toList.drop fr2)))
                                  obtain ⟨b', s9', w1, w2, w3, w4, w5, w6, w7, w8, w9, w10, w11⟩ := hSz.arg hk
                                  obtain rfl : b' = b := by omega
                                  simp (disch := omega) only [↓sxA, sxB, sxP, Nat.reduceLeDiff, reduceCtorEq, Nat.reduceEqDiff, Nat.reduceAdd, Int.reduceLT, Int.reduceLE, Int.reduceEq, Nat.reduceLT, Int.reduceToNat, Int.reduceAdd, Int.reduceSub, ↓reduceIte, hbz0, ↓w6, ↓z3]
                                  exact fin _ _ _ ⟨none, hstR.trans (restT _ _ _ hall hT0), .inl ⟨rfl, rfl⟩⟩ z6
                                · rw [decide_eq_true hT0]
                                  obtain ⟨b, s8, z1, z2, z3, z4, z5, z6⟩ := hSz.lone hk (bs (trimE (s.data.toList.drop fr2)))
                                  obtain ⟨b', s9', w1, w2, w3, w4, w5, w6, w7, w8, w9, w10, w11⟩ := hSz.arg hk
                                  obtain rfl : b' = b := by omega
                                  simp (disch := omega) only [↓sxA, sxB, sxP, Nat.reduceLeDiff, reduceCtorEq, Nat.reduceEqDiff, Nat.reduceAdd, Int.reduceLT, Int.reduceLE, Int.reduceEq, Nat.reduceLT, Int.reduceToNat, Int.reduceAdd, Int.reduceSub, ↓reduceIte, hbz0, ↓w6, ↓z3]
                                  refine fin _ _ _ ⟨_, hstR.trans (restOk' _ _ _ hall hT0), .inr ⟨_, rfl, rfl, by rw [upd_len]; omega, ?_⟩⟩ z6
                                  have e : (upd' cs1 k fun c => (⟨[(bs (trimE (s.data.toList.drop fr2)))], c.set, c.nm⟩ : Cl)) = upd' cs1 k (Cl.one (bs (trimE (s.data.toList.drop fr2)))) := by
                                    unfold upd' Cl.one
                                    simp only [hset1]
                                  rw [← e]
                                  exact z4
                          | false =>
                            rw [hfR] at hF
                            have hstW : stepA s.data.toList l p cs = if true = false ∧ w2 = [61] then .done none else .go to2 (upd' cs1 k (Cl.push (bs w2))) := by rw [hAB hsw]; unfold namB; rw [heq, hn2]; simp only; rw [if_neg (by rw [hfR]; decide)]
                            by_cases hw61c : bs w2 = ⟨#[61]⟩
                            · have hw61 : (bs w2 = ⟨#[61]⟩) = True := eq_true hw61c
                              rw [if_neg (fun hh => by cases hh.1)] at hstW
                              obtain ⟨g1, g2, g3, g4, g5⟩ := next _ _ hstW
                              obtain ⟨b, vv, y1, y2, y3, y4, y5⟩ := hSz.push hk (bs w2) (by rw [hvl1]; have := hvl k; omega) hltS
                              obtain ⟨b', s9', w1, w2', w3, w4, w5, w6, w7, w8, w9, w10, w11⟩ := hSz.arg hk
                              obtain rfl : b' = b := by omega
                              have hagn := again y3 y4
                              simp (disch := omega) only [↓sxA, sxB, sxP, Nat.reduceLeDiff, reduceCtorEq, Nat.reduceEqDiff, Nat.reduceAdd, Int.reduceLT, Int.reduceLE, Int.reduceEq, Nat.reduceLT, Int.reduceToNat, Int.reduceAdd, Int.reduceSub, ↓reduceIte, hbz0, ↓a1, ↓hF, hw61, ↓w6, ↓y3, ↓stp]
                              refine (hagn _).mpr ?_
                              simp (disch := omega) only [↓sxA, ↓wk_store, sxB, sxP, Nat.reduceLeDiff, reduceCtorEq, Nat.reduceEqDiff, Nat.reduceAdd, Int.reduceLT, Int.reduceLE, Int.reduceEq, Nat.reduceLT, Int.reduceToNat, Int.reduceAdd, Int.reduceSub, ↓reduceIte]
                              refine y5 _ fun v' s7' s8' z1 z2 z3 z4 => ?_
                              have hbz := (z3 _ rfl).trans hbz0
                              have e : upd' cs1 k (Cl.vl (bs w2)) = upd' cs1 k (Cl.push (bs w2)) := by
                                unfold upd' Cl.vl Cl.push
                                rw [hset1]
                              rw [e] at z2
                              simp (disch := omega) only [↓sxA, ↓wk_store, sxB, sxP, Nat.reduceLeDiff, reduceCtorEq, Nat.reduceEqDiff, Nat.reduceAdd, Int.reduceLT, Int.reduceLE, Int.reduceEq, Nat.reduceLT, Int.reduceToNat, Int.reduceAdd, Int.reduceSub, ↓reduceIte, ↓w6, ↓z1, hbz]
                              refine ⟨_, rfl, ⟨to2, _, rfl, g2, z2.unbox, g3, g4, g5⟩, ?_⟩
                              show ((s.size : Int) - (to2 : Int)).toNat < ((s.size : Int) - (p : Int)).toNat
                              omega
                            · have hw61 : (bs w2 = ⟨#[61]⟩) = False := eq_false hw61c
                              rw [if_neg (fun hh => by cases hh.1)] at hstW
                              obtain ⟨g1, g2, g3, g4, g5⟩ := next _ _ hstW
                              obtain ⟨b, vv, y1, y2, y3, y4, y5⟩ := hSz.push hk (bs w2) (by rw [hvl1]; have := hvl k; omega) hltS
                              obtain ⟨b', s9', w1, w2', w3, w4, w5, w6, w7, w8, w9, w10, w11⟩ := hSz.arg hk
                              obtain rfl : b' = b := by omega
                              have hagn := again y3 y4
                              simp (disch := omega) only [↓sxA, sxB, sxP, Nat.reduceLeDiff, reduceCtorEq, Nat.reduceEqDiff, Nat.reduceAdd, Int.reduceLT, Int.reduceLE, Int.reduceEq, Nat.reduceLT, Int.reduceToNat, Int.reduceAdd, Int.reduceSub, ↓reduceIte, hbz0, ↓a1, ↓hF, hw61, ↓w6, ↓y3, ↓stp]
                              refine (hagn _).mpr ?_
                              simp (disch := omega) only [↓sxA, ↓wk_store, sxB, sxP, Nat.reduceLeDiff, reduceCtorEq, Nat.reduceEqDiff, Nat.reduceAdd, Int.reduceLT, Int.reduceLE, Int.reduceEq, Nat.reduceLT, Int.reduceToNat, Int.reduceAdd, Int.reduceSub, ↓reduceIte]
                              refine y5 _ fun v' s7' s8' z1 z2 z3 z4 => ?_
                              have hbz := (z3 _ rfl).trans hbz0
                              have e : upd' cs1 k (Cl.vl (bs w2)) = upd' cs1 k (Cl.push (bs w2)) := by
                                unfold upd' Cl.vl Cl.push
                                rw [hset1]
                              rw [e] at z2
                              simp (disch := omega) only [↓sxA, ↓wk_store, sxB, sxP, Nat.reduceLeDiff, reduceCtorEq, Nat.reduceEqDiff, Nat.reduceAdd, Int.reduceLT, Int.reduceLE, Int.reduceEq, Nat.reduceLT, Int.reduceToNat, Int.reduceAdd, Int.reduceSub, ↓reduceIte, ↓w6, ↓z1, hbz]
                              refine ⟨_, rfl, ⟨to2, _, rfl, g2, z2.unbox, g3, g4, g5⟩, ?_⟩
                              show ((s.size : Int) - (to2 : Int)).toNat < ((s.size : Int) - (p : Int)).toNat
                              omega
                        | false =>
                          obtain ⟨sz, hsz'⟩ : ∃ sz, sz = s9.put s4.next (some (.row [.string (bs w2), .bool false, .int .i64 (fr2 : Nat), .int .i64 (to2 : Nat)] 0 false)) := ⟨_, rfl⟩
                          have hSz : AgS st sz av bn s4.next l cs1 := by rw [hsz']; exact hSP _
                          have hbz0 : sz.get s4.next = some (.row [.string (bs w2), .bool false, .int .i64 (fr2 : Nat), .int .i64 (to2 : Nat)] 0 false) := by rw [hsz']; exact get_put_same _ _ _
                          have hltS : s4.next < sz.next := by rw [hsz']; first | exact hlt9 | exact hlt11
                          have stp : ∀ W : Value → St → Prop, wopK (.store 4) [.pointer (some ⟨s4.next, 0, none⟩), .agg #[.string (bs w2), .bool false, .int .i64 (fr2 : Nat), .int .i64 (to2 : Nat)]] s9 W = W undef sz := fun W => by rw [hsz']; exact wdPut4 hb9 rfl _ _ _ _ rfl rfl rfl rfl W
                          have hF := a2 sz hSz.frm 6 (.bool (mkAt l k).f) (by rw [mkAt_lt hk]; rfl)
                          cases hfR : (mkAt l k).f with
                          | true =>
                            rw [hfR] at hF
                            have hstR : stepA s.data.toList l p cs = restA s.data.toList fr2 k cs1 := by rw [hAB hsw]; unfold namB; rw [heq, hn2]; simp only; rw [if_pos hfR]
                            by_cases hw61c : bs w2 = ⟨#[61]⟩
                            · have e : w2 = [61] := bs_inj (hw61c.trans (show (⟨#[61]⟩ : ByteArray) = bs [61] from rfl))
                              rw [e] at hn2
                              exact (h61 (sign_at hn2)).elim
                            · have hw61 : (bs w2 = ⟨#[61]⟩) = False := eq_false hw61c
                              simp (disch := omega) only [↓sxA, sxB, sxP, Nat.reduceLeDiff, reduceCtorEq, Nat.reduceEqDiff, Nat.reduceAdd, Int.reduceLT, Int.reduceLE, Int.reduceEq, Nat.reduceLT, Int.reduceToNat, Int.reduceAdd, Int.reduceSub, ↓reduceIte, hbz0, ↓a1, ↓hF, hw61, ↓stp]
                              refine kRestR (n + 1) s (by omega) fr2 (by omega) (fun hall => ?_) (fun hall => ?_)
                              · obtain ⟨b, s8, z1, z2, z3, z4, z5, z6⟩ := hSz.lone hk ByteArray.empty
                                obtain ⟨b', s9', w1, w2, w3, w4, w5, w6, w7, w8, w9, w10, w11⟩ := hSz.arg hk
                                obtain rfl : b' = b := by omega
                                simp (disch := omega) only [↓sxA, sxB, sxP, Nat.reduceLeDiff, reduceCtorEq, Nat.reduceEqDiff, Nat.reduceAdd, Int.reduceLT, Int.reduceLE, Int.reduceEq, Nat.reduceLT, Int.reduceToNat, Int.reduceAdd, Int.reduceSub, ↓reduceIte, hbz0, ↓w6, ↓z3]
                                exact fin _ _ _ ⟨none, hstR.trans (restNo _ _ _ hall), .inl ⟨rfl, rfl⟩⟩ z6
                              · by_cases hT0 : trimE (s.data.toList.drop fr2) = []
                                · rw [decide_eq_false (fun hh => hh hT0)]
                                  obtain ⟨b, s8, z1, z2, z3, z4, z5, z6⟩ := hSz.lone hk (bs (trimE (s.data.toList.drop fr2)))
                                  obtain ⟨b', s9', w1, w2, w3, w4, w5, w6, w7, w8, w9, w10, w11⟩ := hSz.arg hk
                                  obtain rfl : b' = b := by omega
                                  simp (disch := omega) only [↓sxA, sxB, sxP, Nat.reduceLeDiff, reduceCtorEq, Nat.reduceEqDiff, Nat.reduceAdd, Int.reduceLT, Int.reduceLE, Int.reduceEq, Nat.reduceLT, Int.reduceToNat, Int.reduceAdd, Int.reduceSub, ↓reduceIte, hbz0, ↓w6, ↓z3]
                                  exact fin _ _ _ ⟨none, hstR.trans (restT _ _ _ hall hT0), .inl ⟨rfl, rfl⟩⟩ z6
                                · rw [decide_eq_true hT0]
                                  obtain ⟨b, s8, z1, z2, z3, z4, z5, z6⟩ := hSz.lone hk (bs (trimE (s.data.toList.drop fr2)))
                                  obtain ⟨b', s9', w1, w2, w3, w4, w5, w6, w7, w8, w9, w10, w11⟩ := hSz.arg hk
                                  obtain rfl : b' = b := by omega
                                  simp (disch := omega) only [↓sxA, sxB, sxP, Nat.reduceLeDiff, reduceCtorEq, Nat.reduceEqDiff, Nat.reduceAdd, Int.reduceLT, Int.reduceLE, Int.reduceEq, Nat.reduceLT, Int.reduceToNat, Int.reduceAdd, Int.reduceSub, ↓reduceIte, hbz0, ↓w6, ↓z3]
                                  refine fin _ _ _ ⟨_, hstR.trans (restOk' _ _ _ hall hT0), .inr ⟨_, rfl, rfl, by rw [upd_len]; omega, ?_⟩⟩ z6
                                  have e : (upd' cs1 k fun c => (⟨[(bs (trimE (s.data.toList.drop fr2)))], c.set, c.nm⟩ : Cl)) = upd' cs1 k (Cl.one (bs (trimE (s.data.toList.drop fr2)))) := by
                                    unfold upd' Cl.one
                                    simp only [hset1]
                                  rw [← e]
                                  exact z4
                          | false =>
                            rw [hfR] at hF
                            have hstW : stepA s.data.toList l p cs = if false = false ∧ w2 = [61] then .done none else .go to2 (upd' cs1 k (Cl.push (bs w2))) := by rw [hAB hsw]; unfold namB; rw [heq, hn2]; simp only; rw [if_neg (by rw [hfR]; decide)]
                            by_cases hw61c : bs w2 = ⟨#[61]⟩
                            · have e : w2 = [61] := bs_inj (hw61c.trans (show (⟨#[61]⟩ : ByteArray) = bs [61] from rfl))
                              rw [e] at hn2
                              exact (h61 (sign_at hn2)).elim
                            · have hw61 : (bs w2 = ⟨#[61]⟩) = False := eq_false hw61c
                              rw [if_neg (fun hh => hw61c (by rw [hh.2]; rfl))] at hstW
                              obtain ⟨g1, g2, g3, g4, g5⟩ := next _ _ hstW
                              obtain ⟨b, vv, y1, y2, y3, y4, y5⟩ := hSz.push hk (bs w2) (by rw [hvl1]; have := hvl k; omega) hltS
                              obtain ⟨b', s9', w1, w2', w3, w4, w5, w6, w7, w8, w9, w10, w11⟩ := hSz.arg hk
                              obtain rfl : b' = b := by omega
                              have hagn := again y3 y4
                              simp (disch := omega) only [↓sxA, sxB, sxP, Nat.reduceLeDiff, reduceCtorEq, Nat.reduceEqDiff, Nat.reduceAdd, Int.reduceLT, Int.reduceLE, Int.reduceEq, Nat.reduceLT, Int.reduceToNat, Int.reduceAdd, Int.reduceSub, ↓reduceIte, hbz0, ↓a1, ↓hF, hw61, ↓w6, ↓y3, ↓stp]
                              refine (hagn _).mpr ?_
                              simp (disch := omega) only [↓sxA, ↓wk_store, sxB, sxP, Nat.reduceLeDiff, reduceCtorEq, Nat.reduceEqDiff, Nat.reduceAdd, Int.reduceLT, Int.reduceLE, Int.reduceEq, Nat.reduceLT, Int.reduceToNat, Int.reduceAdd, Int.reduceSub, ↓reduceIte]
                              refine y5 _ fun v' s7' s8' z1 z2 z3 z4 => ?_
                              have hbz := (z3 _ rfl).trans hbz0
                              have e : upd' cs1 k (Cl.vl (bs w2)) = upd' cs1 k (Cl.push (bs w2)) := by
                                unfold upd' Cl.vl Cl.push
                                rw [hset1]
                              rw [e] at z2
                              simp (disch := omega) only [↓sxA, ↓wk_store, sxB, sxP, Nat.reduceLeDiff, reduceCtorEq, Nat.reduceEqDiff, Nat.reduceAdd, Int.reduceLT, Int.reduceLE, Int.reduceEq, Nat.reduceLT, Int.reduceToNat, Int.reduceAdd, Int.reduceSub, ↓reduceIte, ↓w6, ↓z1, hbz]
                              refine ⟨_, rfl, ⟨to2, _, rfl, g2, z2.unbox, g3, g4, g5⟩, ?_⟩
                              show ((s.size : Int) - (to2 : Int)).toNat < ((s.size : Int) - (p : Int)).toNat
                              omega
            · have hst : stepA s.data.toList l p cs = valA s.data.toList l fr (some (w, false, to)) cs := by unfold stepA; rw [hn]; simp only; rw [if_neg (fun hh => hk0 hh.2)]
              have hk1 : kn l w = -1 := hkl.resolve_right fun hh => hk0 (by simpa using hh.1)
              have hlt : s4.next < s6.next := Nat.lt_of_lt_of_le hlt G6.nx
              rw [hk1]
              simp (disch := omega) only [↓sxA, ↓wk_store, sxB, sxP, Nat.reduceLeDiff, reduceCtorEq, Nat.reduceEqDiff, Nat.reduceAdd, Int.reduceLT, Int.reduceLE, Int.reduceEq, Nat.reduceLT, Int.reduceToNat, Int.reduceAdd, Int.reduceSub, ↓reduceIte, hb6]
              have la5 := (hR.keep (st' := s6) (hS6.frm).nx fun i _ hi => (hS6.frm).old i hi)
              refine kOpenR (n + 1) la5 hS6.ag hcl (by omega) ?_
              rw [← ho]
              rcases hcase with rfl | ⟨k, hk, rfl, hmk⟩
              · simp (disch := omega) only [↓sxA, ↓wk_store, sxB, sxP, Nat.reduceLeDiff, reduceCtorEq, Nat.reduceEqDiff, Nat.reduceAdd, Int.reduceLT, Int.reduceLE, Int.reduceEq, Nat.reduceLT, Int.reduceToNat, Int.reduceAdd, Int.reduceSub, ↓reduceIte, hb6]
                exact bad _ (hst.trans (vNone rfl _ _)) hS6.frm
              · obtain ⟨bb, nv, a1, a2, a3, a4⟩ := la5.at2 hk
                have aR := a2 s6 (Frm.refl _) 6 (.bool (mkAt l k).f) (by rw [mkAt_lt hk]; rfl)
                cases hfR : (mkAt l k).f with
                | true =>
                  rw [hfR] at aR
                  have hstR := hst.trans (vRest k rfl hfR _ _)
                  simp (disch := omega) only [↓sxA, ↓wk_store, sxB, sxP, Nat.reduceLeDiff, reduceCtorEq, Nat.reduceEqDiff, Nat.reduceAdd, Int.reduceLT, Int.reduceLE, Int.reduceEq, Nat.reduceLT, Int.reduceToNat, Int.reduceAdd, Int.reduceSub, ↓reduceIte, hb6, ↓a1, ↓aR]
                  refine kRestR (n + 1) s (by omega) fr (by omega) (fun hall => ?_) (fun hall => ?_)
                  · obtain ⟨b, s8, z1, z2, z3, z4, z5, z6⟩ := hS6.lone hk ByteArray.empty
                    obtain ⟨b', s9', w1, w2, w3, w4, w5, w6, w7, w8, w9, w10, w11⟩ := hS6.arg hk
                    obtain rfl : b' = b := by omega
                    have hl8 : k < (upd' cs k fun c => ⟨[ByteArray.empty], c.set, c.nm⟩).length := by rw [upd_len]; omega
                    obtain ⟨s9, y1, y2, y3, y4⟩ := z4.put_set hl8 Cl.put (fun c => ⟨rfl, rfl⟩) z1
                    have hF9 : Frm st s9 := ⟨by have := z6.nx; omega, fun i hi => (y4 i (by omega)).trans (z6.old i hi)⟩
                    simp (disch := omega) only [↓sxA, sxB, sxP, Nat.reduceLeDiff, reduceCtorEq, Nat.reduceEqDiff, Nat.reduceAdd, Int.reduceLT, Int.reduceLE, Int.reduceEq, Nat.reduceLT, Int.reduceToNat, Int.reduceAdd, Int.reduceSub, ↓reduceIte, hb6, ↓w6, ↓z3, ↓y1]
                    exact fin _ _ _ ⟨none, hstR.trans (restNo _ _ _ hall), .inl ⟨rfl, rfl⟩⟩ hF9
                  · by_cases hT0 : trimE (s.data.toList.drop fr) = []
                    · rw [decide_eq_false (fun hh => hh hT0)]
                      obtain ⟨b, s8, z1, z2, z3, z4, z5, z6⟩ := hS6.lone hk (bs (trimE (s.data.toList.drop fr)))
                      obtain ⟨b', s9', w1, w2, w3, w4, w5, w6, w7, w8, w9, w10, w11⟩ := hS6.arg hk
                      obtain rfl : b' = b := by omega
                      have hl8 : k < (upd' cs k fun c => ⟨[(bs (trimE (s.data.toList.drop fr)))], c.set, c.nm⟩).length := by rw [upd_len]; omega
                      obtain ⟨s9, y1, y2, y3, y4⟩ := z4.put_set hl8 Cl.put (fun c => ⟨rfl, rfl⟩) z1
                      have hF9 : Frm st s9 := ⟨by have := z6.nx; omega, fun i hi => (y4 i (by omega)).trans (z6.old i hi)⟩
                      simp (disch := omega) only [↓sxA, sxB, sxP, Nat.reduceLeDiff, reduceCtorEq, Nat.reduceEqDiff, Nat.reduceAdd, Int.reduceLT, Int.reduceLE, Int.reduceEq, Nat.reduceLT, Int.reduceToNat, Int.reduceAdd, Int.reduceSub, ↓reduceIte, hb6, ↓w6, ↓z3, ↓y1]
                      exact fin _ _ _ ⟨none, hstR.trans (restT _ _ _ hall hT0), .inl ⟨rfl, rfl⟩⟩ hF9
                    · rw [decide_eq_true hT0]
                      obtain ⟨b, s8, z1, z2, z3, z4, z5, z6⟩ := hS6.lone hk (bs (trimE (s.data.toList.drop fr)))
                      obtain ⟨b', s9', w1, w2, w3, w4, w5, w6, w7, w8, w9, w10, w11⟩ := hS6.arg hk
                      obtain rfl : b' = b := by omega
                      have hl8 : k < (upd' cs k fun c => ⟨[(bs (trimE (s.data.toList.drop fr)))], c.set, c.nm⟩).length := by rw [upd_len]; omega
                      obtain ⟨s9, y1, y2, y3, y4⟩ := z4.put_set hl8 Cl.put (fun c => ⟨rfl, rfl⟩) z1
                      have hF9 : Frm st s9 := ⟨by have := z6.nx; omega, fun i hi => (y4 i (by omega)).trans (z6.old i hi)⟩
                      simp (disch := omega) only [↓sxA, sxB, sxP, Nat.reduceLeDiff, reduceCtorEq, Nat.reduceEqDiff, Nat.reduceAdd, Int.reduceLT, Int.reduceLE, Int.reduceEq, Nat.reduceLT, Int.reduceToNat, Int.reduceAdd, Int.reduceSub, ↓reduceIte, hb6, ↓w6, ↓z3, ↓y1]
                      rw [upd_upd _ _ _ _ (by omega)] at y2
                      refine fin _ _ _ ⟨_, hstR.trans (restOk' _ _ _ hall hT0), .inr ⟨_, rfl, rfl, by rw [upd_len]; omega, ?_⟩⟩ hF9
                      exact y2
                | false =>
                  rw [hfR] at aR
                  have hstW := hst.trans (vWd k rfl hfR _ _ _ _)
                  by_cases hsg : (decide (bs w = ⟨#[61]⟩) && !false) = true
                  · obtain ⟨q1, q2⟩ := (sign_iff w false).1 hsg
                    have hw61 : (bs w = ⟨#[61]⟩) = True := eq_true (by rw [q2]; rfl)
                    simp (disch := omega) only [↓sxA, ↓wk_store, sxB, sxP, Nat.reduceLeDiff, reduceCtorEq, Nat.reduceEqDiff, Nat.reduceAdd, Int.reduceLT, Int.reduceLE, Int.reduceEq, Nat.reduceLT, Int.reduceToNat, Int.reduceAdd, Int.reduceSub, ↓reduceIte, hb6, ↓a1, ↓aR, hw61]
                    exact bad _ (hstW.trans (if_pos ⟨q1, q2⟩)) hS6.frm
                  · rw [if_neg (fun hh => hsg ((sign_iff w false).2 hh))] at hstW
                    obtain ⟨g1, g2, g3, g4, g5⟩ := next _ _ hstW
                    obtain ⟨b, vv, y1, y2, y3, y4, y5⟩ := hS6.push hk (bs w) (by have := hvl k; omega) hlt
                    obtain ⟨b', s9', w1, w2, w3, w4, w5, w6, w7, w8, w9, w10, w11⟩ := hS6.arg hk
                    obtain rfl : b' = b := by omega
                    have hagn := again y3 y4
                    have hw61 : (bs w = ⟨#[61]⟩) = False := eq_false (fun hh => hsg (by rw [hh]; rfl))
                    simp (disch := omega) only [↓sxA, ↓wk_store, sxB, sxP, Nat.reduceLeDiff, reduceCtorEq, Nat.reduceEqDiff, Nat.reduceAdd, Int.reduceLT, Int.reduceLE, Int.reduceEq, Nat.reduceLT, Int.reduceToNat, Int.reduceAdd, Int.reduceSub, ↓reduceIte, hb6, ↓a1, ↓aR, hw61, ↓w6, ↓y3]
                    refine (hagn _).mpr ?_
                    simp (disch := omega) only [↓sxA, ↓wk_store, sxB, sxP, Nat.reduceLeDiff, reduceCtorEq, Nat.reduceEqDiff, Nat.reduceAdd, Int.reduceLT, Int.reduceLE, Int.reduceEq, Nat.reduceLT, Int.reduceToNat, Int.reduceAdd, Int.reduceSub, ↓reduceIte]
                    refine y5 _ fun v' s7 s8 z1 z2 z3 z4 => ?_
                    obtain ⟨b'', s9, u1, u2, u3, u4, u5, u6, u7, u8, u9, u10, u11⟩ := z2.arg hk
                    obtain rfl : b'' = b' := by omega
                    have hb9 := (u11 s4.next (Ne.symm u5)).trans ((z3 _ rfl).trans hb6)
                    rw [upd_upd _ _ _ _ (by omega)] at u9
                    simp (disch := omega) only [↓sxA, ↓wk_store, sxB, sxP, Nat.reduceLeDiff, reduceCtorEq, Nat.reduceEqDiff, Nat.reduceAdd, Int.reduceLT, Int.reduceLE, Int.reduceEq, Nat.reduceLT, Int.reduceToNat, Int.reduceAdd, Int.reduceSub, ↓reduceIte, ↓w6, ↓z1, ↓u8, hb9]
                    refine ⟨_, rfl, ⟨to, _, rfl, g2, u9.unbox, g3, g4, g5⟩, ?_⟩
                    show ((s.size : Int) - (to : Int)).toNat < ((s.size : Int) - (p : Int)).toNat
                    omega
end
end Go.Proofs.YtdmemibnphcedaaGreatDoor
