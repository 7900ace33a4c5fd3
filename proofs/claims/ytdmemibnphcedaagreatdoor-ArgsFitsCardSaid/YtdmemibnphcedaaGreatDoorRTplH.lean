/-
  The program's Template.
-/
import Derived.Test.YtdmemibnphcedaaGreatDoorRTplG
set_option linter.unusedSimpArgs false
set_option linter.unusedVariables false
set_option maxRecDepth 10000
set_option linter.unusedSectionVars false
namespace Go.Proofs.YtdmemibnphcedaaGreatDoor
open Go.Am
attribute [local irreducible] callO wopK ropK popK opK grpsE listE sx Runs

/-- between two parts -/
def TL1 (st : St) (pv : Value) (ps : List ByteArray) (vs : List Value) (s : St) : Prop :=
  ∃ (done : List IM) (j : Nat) (out : Value) (es : List (Value × Value × Nat)) (c : Nat), vs = [out, .map (some st.next), pv, .int .i64 (manyOf done : Nat), pv, .int .i64 (ps.length : Nat), .int .i64 (j : Nat)] ∧ j ≤ ps.length ∧ itemsA (ps.take j) = some done ∧
    ItR (st.next + 3) s out done ∧ s.get st.next = some (.map es c) ∧ Seen es (namesOf done) ∧ (namesOf done).Nodup ∧ (∀ i y, done[i]? = some y → i + 1 < ps.length → y.mks.f = false) ∧ st.next < s.next ∧ (∀ i, i < st.next → s.get i = st.get i) ∧ Row1 s pv (ps.map Value.string) ∧ ow pv ≤ s.next ∧ ow pv = st.next + 2

/-- between two names -/
def TL2 (st s3 : St) (pv out nv : Value) (ps : List ByteArray) (done : List IM) (x : IM) (bx j : Nat) (vs : List Value) (s : St) : Prop :=
  ∃ (k : Nat) (es : List (Value × Value × Nat)) (c : Nat), vs = [out, .map (some st.next), pv, .int .i64 (manyOf done : Nat), .pointer (some ⟨bx, 0, none⟩), pv, .int .i64 (ps.length : Nat), .int .i64 (j : Nat), nv, .int .i64 (x.names.length : Nat), .int .i64 (k : Nat)] ∧ k ≤ x.names.length ∧
    s.get st.next = some (.map es c) ∧ Seen es (namesOf done ++ x.names.take k) ∧ (namesOf done ++ x.names.take k).Nodup ∧ s.next = s3.next ∧ ∀ i, i ≠ st.next → s.get i = s3.get i

theorem itemA_names {s : ByteArray} {x : IM} (h : itemA s = some x) : x.names.length ≤ s.size + 1 := by
  unfold itemA at h
  split at h
  · rename_i hd t hp
    split at h
    · rename_i mks hm
      split at h
      · cases h
        have h1 := pieces_length 61 hd
        have h2 := pieces_size (c := 47) (s := s) (p := hd) (by rw [hp]; simp)
        show (pieces 61 hd).length ≤ _
        omega
      · cases h
    · cases h
  · cases h

section
variable {st : St} {K : Value → St → Prop}

set_option maxHeartbeats 8000000 in
theorem kTemplate (n : Nat) (t : ByteArray) (ht : t.size < 80000) (h0 : 0 < st.next) (hm : hasMax st = true) (h : ∀ l e v st', TmA t l e → ItR (st.next + 1) st' v l → Frm st st' → K (.tuple #[v, .int .i64 e]) st') :
    callK (callO T0 orc fns 100000 (n + 6)) 16 [.string t] st K := by
  refine fn_runs (fn := g16) ?_ ?_ ?_
  · rfl
  · rfl
  unfold g16
  by_cases h1 : t = ByteArray.empty
  · have e1 : (t = ByteArray.empty) = True := eq_true h1
    simp (disch := omega) only [↓sxA, ↓wk_store, sxB, sxP, Nat.reduceLeDiff, reduceCtorEq, Nat.reduceEqDiff, Nat.reduceAdd, Int.reduceLT, Int.reduceLE, Int.reduceEq, Nat.reduceLT, Int.reduceToNat, Int.reduceAdd, Int.reduceSub, ↓reduceIte, e1]
    exact h [] 0 _ st (.nil h1) (ItR.nil _ _) (Frm.refl _)
  have e1 : (t = ByteArray.empty) = False := eq_false h1
  have F1 := Frm.new st (.map [] 0)
  simp (disch := omega) only [↓sxA, ↓wk_store, sxB, sxP, Nat.reduceLeDiff, reduceCtorEq, Nat.reduceEqDiff, Nat.reduceAdd, Int.reduceLT, Int.reduceLE, Int.reduceEq, Nat.reduceLT, Int.reduceToNat, Int.reduceAdd, Int.reduceSub, ↓reduceIte, e1]
  refine kSplit (n + 5) t 44 (by omega) (F1.max h0 hm) fun s2 r2 n2 f2 => ?_
  have n2' : s2.next = st.next + 2 := n2
  have hmp : s2.get st.next = some (.map [] 0) := (f2 _ (Nat.lt_succ_self _)).trans (get_new_same _ _)
  have hlen : (pieces 44 t).length ≤ t.size + 1 := pieces_length 44 t
  have hsz : ∀ p ∈ pieces 44 t, p.size ≤ t.size := fun p hp => pieces_size hp
  have hbadT : (∀ l, itemsA (pieces 44 t) = some l → ¬ goodA l) → TmA t [] 3 := fun hh => .bad h1 hh
  have hlongT : ∀ l, itemsA (pieces 44 t) = some l → goodA l → 20 < l.length → TmA t [] 2 := fun l k1 k2 k3 => .long l h1 k1 k2 k3
  have hokT : ∀ l, itemsA (pieces 44 t) = some l → goodA l → l.length ≤ 20 → TmA t l 0 := fun l k1 k2 k3 => .ok l h1 k1 k2 k3
  have how : ow (Value.slice (some ⟨(st.new (.map [] 0)).next, 0, none⟩) (pieces 44 t).length (pieces 44 t).length) = st.next + 2 := rfl
  have hln : ∀ K : Value → Prop, popK .lenSl [Value.slice (some ⟨(st.new (.map [] 0)).next, 0, none⟩) (pieces 44 t).length (pieces 44 t).length] K = K (.int .i64 ((pieces 44 t).length : Nat)) := fun K => pk_lenSl _ _ _
  generalize Value.slice (some ⟨(st.new (.map [] 0)).next, 0, none⟩) (pieces 44 t).length (pieces 44 t).length = pv at r2 how hln
  have f2' : ∀ i, i < st.next → s2.get i = st.get i := fun i hi => (f2 i (by show i < st.next + 1; omega)).trans (get_new_ne _ _ _ (by omega))
  generalize pieces 44 t = ps at r2 hlen hsz hbadT hlongT hokT hln
  clear f2 n2
  simp (disch := omega) only [↓sxA, ↓wk_store, sxB, sxP, Nat.reduceLeDiff, reduceCtorEq, Nat.reduceEqDiff, Nat.reduceAdd, Int.reduceLT, Int.reduceLE, Int.reduceEq, Nat.reduceLT, Int.reduceToNat, Int.reduceAdd, Int.reduceSub, ↓reduceIte, ↓hln]
  refine loop_rule [4, 5, 6, 7, 19, 20, 21] (TL1 st pv ps) (fun vs _ => match lget vs 6 with
      | .int _ k => ((ps.length : Int) - k).toNat
      | _ => 0) ?_ ?_ ?_
  · rfl
  · refine ⟨_, rfl, ⟨[], 0, _, [], 0, rfl, Nat.zero_le _, rfl, ItR.nil _ _, hmp, rfl, List.nodup_nil, fun i y hi => by simp at hi, by omega, f2', r2, by omega, by omega⟩, ?_⟩
    show ((ps.length : Int) - 0).toNat < 100000
    omega
  · clear hmp f2' r2 n2' s2
    rintro vs s ⟨done, j, out, es, c, rfl, hj, hit, hR, hmp, hseen, hnd, hrest, hnx, hf, hr, hpw, hpl⟩
    show sx _ _ _ _ _ [(4, _), (5, _), (6, _), (7, _), (19, _), (20, _), (21, _)] _ _ _ _
    have F : Frm st s := ⟨by omega, hf⟩
    by_cases hjp : j < ps.length
    · have ix := idx_cel hr.cel .i64 (j : Int)
      rw [List.length_map] at ix
      have ld : ∀ K : Value → Prop, ropK .load1 [bptr pv (j : Int)] s K = K (.string (ps.getD j .empty)) := fun K => by
        rw [load_cel hr.cel (j : Int) K (by omega) (by rw [List.length_map]; omega), Int.toNat_natCast, getD_str _ j hjp]
      have hpj : ps.getD j .empty = ps[j] := by rw [List.getD_eq_getElem?_getD, List.getElem?_eq_getElem hjp, Option.getD_some]
      rw [hpj] at ld
      have hps := hsz _ (List.getElem_mem hjp)
      have hat : ∀ l, itemsA ps = some l → ∃ x r, itemA ps[j] = some x ∧ l = done ++ x :: r ∧ r.length = ps.length - j - 1 := fun l hl => items_at hjp hit hl
      have hsn : ∀ x, itemA ps[j] = some x → itemsA (ps.take (j + 1)) = some (done ++ [x]) := fun x hx => items_snoc hjp hit hx
      have hdl : done.length = j := by rw [itemsA_length hit, List.length_take]; omega
      generalize ps[j] = p at ld hps hat hsn
      simp (disch := omega) only [↓sxA, ↓wk_store, sxB, sxP, Nat.reduceLeDiff, reduceCtorEq, Nat.reduceEqDiff, Nat.reduceAdd, Int.reduceLT, Int.reduceLE, Int.reduceEq, Nat.reduceLT, Int.reduceToNat, Int.reduceAdd, Int.reduceSub, ↓reduceIte, ↓ix, ↓ld]
      refine kItem n p (by omega) (by omega) (F.max h0 hm) (fun hb l hl hlo s3 F3 => ?_) (fun x hx nv s3 F3 hnv ho1 how1 hown => ?_)
      · -- no item
        have st7 := fun W => wk_storeK (W := W) (get_new_same s3 (.row zero7 0 false)) (o := 0) (k := 7) (xs := l) (by decide) hl hlo
        simp (disch := omega) only [↓sxA, ↓wk_store, sxB, sxP, Nat.reduceLeDiff, reduceCtorEq, Nat.reduceEqDiff, Nat.reduceAdd, Int.reduceLT, Int.reduceLE, Int.reduceEq, Nat.reduceLT, Int.reduceToNat, Int.reduceAdd, Int.reduceSub, ↓reduceIte, ↓st7]
        refine h [] 3 _ _ (hbadT fun l hl => ?_) (ItR.nil _ _) (((F.trans F3).trans (Frm.new s3 _)).put _ (by have := F3.nx; omega) _)
        obtain ⟨x, r, hx, _⟩ := hat l hl
        rw [hb] at hx
        cases hx
      · obtain ⟨s4, hs4⟩ : ∃ s4, s4 = (s3.new (.row zero7 0 false)).put s3.next (some (.row [nv, .bool x.mks.a, .bool x.mks.k, .bool x.mks.s, .bool x.mks.n, .bool x.mks.m, .bool x.mks.f] 0 false)) := ⟨_, rfl⟩
        have st7 : ∀ W : Value → St → Prop, wopK (.store 7) [.pointer (some ⟨s3.next, 0, none⟩), .agg (itCells nv x.mks).toArray] (s3.new (.row zero7 0 false)) W = W undef s4 :=
          fun W => by rw [hs4]; exact wk_storeK (W := W) (get_new_same s3 (.row zero7 0 false)) (o := 0) (k := 7) (xs := itCells nv x.mks) (by decide) rfl (it7 ho1 _)
        have hnl := itemA_names hx
        have hbx : s4.get s3.next = some (.row [nv, .bool x.mks.a, .bool x.mks.k, .bool x.mks.s, .bool x.mks.n, .bool x.mks.m, .bool x.mks.f] 0 false) := by rw [hs4]; exact get_put_same _ _ _
        have n4 : s4.next = s3.next + 1 := by rw [hs4]; rfl
        have f4 : ∀ i, i < s3.next → s4.get i = s3.get i := fun i hi => by rw [hs4, get_put_ne _ _ _ _ (by omega), get_new_ne _ _ _ (by omega)]
        have hn3 := F3.nx
        have F4 : Frm s s4 := F3.trans ⟨by omega, f4⟩
        have Fst : Frm st s4 := F.trans F4
        have hnv4 : Cel s4 nv (x.names.map Value.string) := hnv.keep fun i hi => f4 i (by omega)
        have lnv := len_cel hnv4
        rw [List.length_map] at lnv
        have hmp4 : s4.get st.next = some (.map es c) := (F4.old _ hnx).trans hmp
        have early : x.mks.f = true → (j : Int) < (ps.length : Int) - 1 → K (.tuple #[.slice none 0 0, .int .i64 3]) s4 := fun hxf hlt => by
          refine h [] 3 _ _ (hbadT fun l hl hg => ?_) (ItR.nil _ _) Fst
          obtain ⟨x', r, hx', hl', hrl⟩ := hat l hl
          rw [hx] at hx'
          cases hx'
          have := (restOk_iff l).1 hg.1 j x (by rw [hl', List.getElem?_append_right (by omega), hdl]; simp) (by rw [hl', List.length_append, List.length_cons]; omega)
          rw [hxf] at this
          cases this
        have hdup : ∀ (k : Nat) (q : ByteArray), k < x.names.length → x.names[k]? = some q → q ∈ namesOf done ++ x.names.take k → ∀ l, itemsA ps = some l → ¬ goodA l := fun k q hk hq hin l hl hg => by
          obtain ⟨x', r, hx', hl', hrl⟩ := hat l hl
          rw [hx] at hx'
          cases hx'
          have hnod := hg.2.1
          have hqk : x.names[k] = q := by rw [List.getElem?_eq_getElem hk] at hq; exact Option.some.inj hq
          rw [hl', namesOf_append, namesOf_cons] at hnod
          have e : x.names = x.names.take k ++ q :: x.names.drop (k + 1) := by rw [← hqk, ← List.drop_eq_getElem_cons hk, List.take_append_drop]
          rw [e, List.append_assoc, ← List.append_assoc, List.cons_append] at hnod
          rw [List.nodup_append] at hnod
          exact hnod.2.2 q hin q (by simp) rfl
        by_cases hE : x.mks.f = true ∧ (j : Int) < (ps.length : Int) - 1
        · have hfv := hE.1
          have hlt := hE.2
          simp (disch := omega) only [↓sxA, ↓wk_store, sxB, sxP, Nat.reduceLeDiff, reduceCtorEq, Nat.reduceEqDiff, Nat.reduceAdd, Int.reduceLT, Int.reduceLE, Int.reduceEq, Nat.reduceLT, Int.reduceToNat, Int.reduceAdd, Int.reduceSub, ↓reduceIte, ↓st7, hbx, hfv, ↓hln]
          exact early hfv hlt
        have hcase : x.mks.f = false ∨ (x.mks.f = true ∧ ¬ (j : Int) < (ps.length : Int) - 1) := by
          cases hh : x.mks.f with
          | false => exact .inl rfl
          | true => exact .inr ⟨rfl, fun hlt => hE ⟨hh, hlt⟩⟩
        rcases hcase with hfv | ⟨hfv, hlast⟩
        all_goals
          simp (disch := omega) only [↓sxA, ↓wk_store, sxB, sxP, Nat.reduceLeDiff, reduceCtorEq, Nat.reduceEqDiff, Nat.reduceAdd, Int.reduceLT, Int.reduceLE, Int.reduceEq, Nat.reduceLT, Int.reduceToNat, Int.reduceAdd, Int.reduceSub, ↓reduceIte, ↓st7, hbx, hfv, ↓hln, ↓lnv]
          refine loop_rule [4, 5, 6, 7, 10, 19, 20, 21, 45, 46, 47] (TL2 st s4 pv out nv ps done x s3.next j) (fun vs _ => match lget vs 10 with
              | .int _ k => ((x.names.length : Int) - k).toNat
              | _ => 0) ?_ ?_ ?_
          · rfl
          · refine ⟨_, rfl, ⟨0, es, c, rfl, Nat.zero_le _, hmp4, by simpa using hseen, by simpa using hnd, rfl, fun _ _ => rfl⟩, ?_⟩
            show ((x.names.length : Int) - 0).toNat < 100000
            omega
          · clear early hmp hmp4 hseen hnd
            rintro vs s5 ⟨k, es, c, rfl, hk, hmp, hseen, hnd, n5, f5⟩
            show sx _ _ _ _ _ [(4, _), (5, _), (6, _), (7, _), (10, _), (19, _), (20, _), (21, _), (45, _), (46, _), (47, _)] _ _ _ _
            have hnv5 : Cel s5 nv (x.names.map Value.string) := hnv4.keep fun i hi => f5 i (by omega)
            have F5 : Frm st s5 := ⟨by have := Fst.nx; omega, fun i hi => (f5 i (by omega)).trans (Fst.old i hi)⟩
            by_cases hkn : k < x.names.length
            · have ix5 := idx_cel hnv5 .i64 (k : Int)
              rw [List.length_map] at ix5
              have hqk : x.names[k]? = some (x.names.getD k .empty) := by rw [List.getD_eq_getElem?_getD, List.getElem?_eq_getElem hkn]; rfl
              have ld5 : ∀ K : Value → Prop, ropK .load1 [bptr nv (k : Int)] s5 K = K (.string (x.names.getD k .empty)) := fun K => by
                rw [load_cel hnv5 (k : Int) K (by omega) (by rw [List.length_map]; omega), Int.toNat_natCast, getD_str _ k hkn]
              have htk : x.names.take (k + 1) = x.names.take k ++ [x.names.getD k .empty] := by rw [List.take_add_one, hqk]; rfl
              have hdq := hdup k _ hkn hqk
              generalize x.names.getD k .empty = q at ld5 htk hdq
              by_cases hin : q ∈ namesOf done ++ x.names.take k
              · obtain ⟨k', hk'⟩ := (hseen.find q 0).1 hin
                have hlk := lookK_hit1 hk'
                simp (disch := omega) only [↓sxA, ↓wk_store, sxB, sxP, Nat.reduceLeDiff, reduceCtorEq, Nat.reduceEqDiff, Nat.reduceAdd, Int.reduceLT, Int.reduceLE, Int.reduceEq, Nat.reduceLT, Int.reduceToNat, Int.reduceAdd, Int.reduceSub, ↓reduceIte, ↓ix5, ↓ld5, hmp, ↓hlk]
                exact h [] 3 _ _ (hbadT (hdq hin)) (ItR.nil _ _) F5
              · have hk' := (hseen.find q 0).2 hin
                have hlk := lookK_miss1 hk'
                have hst := setK_miss hk'
                simp (disch := omega) only [↓sxA, ↓wk_store, sxB, sxP, Nat.reduceLeDiff, reduceCtorEq, Nat.reduceEqDiff, Nat.reduceAdd, Int.reduceLT, Int.reduceLE, Int.reduceEq, Nat.reduceLT, Int.reduceToNat, Int.reduceAdd, Int.reduceSub, ↓reduceIte, ↓ix5, ↓ld5, hmp, ↓hlk, ↓hst]
                refine ⟨_, rfl, ⟨k + 1, _, _, rfl, hkn, get_put_same _ _ _, ?_, ?_, n5, fun i hi => (get_put_ne _ _ _ _ (Ne.symm hi)).trans (f5 i hi)⟩, ?_⟩
                · rw [htk, ← List.append_assoc]; exact hseen.snoc q c
                · rw [htk, ← List.append_assoc, List.nodup_append]
                  refine ⟨hnd, by simp, fun a ha b hb => ?_⟩
                  simp at hb
                  subst hb
                  exact fun e => hin (e ▸ ha)
                · show ((x.names.length : Int) - ((k : Int) + 1)).toNat < ((x.names.length : Int) - (k : Int)).toNat
                  omega
            · have htk : x.names.take k = x.names := List.take_of_length_le (by omega)
              rw [htk] at hseen hnd
              have hbx5 := (f5 s3.next (by omega)).trans hbx
              have all5 := rk_loadAll (k := 7) hbx5 rfl (by decide)
              have hR5 : ItR (st.next + 3) s5 out done := (hR.keep (st' := s4) F4.nx (fun i _ hi => F4.old i hi)).keep (by omega) fun i hi _ => f5 i (by omega)
              obtain ⟨nvs, g1, g2, g3, g4, g5⟩ := hR5
              obtain ⟨nvs', g1', g2', g3', g4', g5'⟩ := hR
              have hnx5 : (s5.new (.row [nv, .bool x.mks.a, .bool x.mks.k, .bool x.mks.s, .bool x.mks.n, .bool x.mks.m, .bool x.mks.f] 0 false)).next = s5.next + 1 := rfl
              -- the item is laid on
              have lay : ∀ W : Value → St → Prop, (∀ v' s6, ItR (st.next + 3) s6 v' (done ++ [x]) → s6.get st.next = some (.map es c) → (∀ i, i < st.next → s6.get i = st.get i) → s5.next ≤ s6.next → Row1 s6 pv (ps.map Value.string) → W v' s6) → wopK (.append 7 32) [out, .slice (some ⟨s5.next, 0, none⟩) 1 1] (s5.new (.row [nv, .bool x.mks.a, .bool x.mks.k, .bool x.mks.s, .bool x.mks.n, .bool x.mks.m, .bool x.mks.f] 0 false)) W := fun W hW => by
                refine appendK (new := [nv, .bool x.mks.a, .bool x.mks.k, .bool x.mks.s, .bool x.mks.n, .bool x.mks.m, .bool x.mks.f]) (g2.keep fun i hi => get_new_ne _ _ _ (by omega)) (get_new_same _ _) rfl (by decide) (it7 ho1 x.mks) (by omega) (by omega) fun s6 k1 k2 k3 => ?_
                have fr : ∀ i, i + 1 ≠ ow out → i < s5.next → s6.get i = s5.get i := fun i hi hlt => (k3 i hi (by omega)).trans (get_new_ne _ _ _ (by omega))
                refine hW _ s6 (ItR.snoc g1 g5 k1 (by omega) fr ⟨?_, ?_, ?_⟩ hnv5 ho1 (by omega) (by omega)) ((fr _ (by omega) (by omega)).trans hmp) (fun i hi => (fr i (by omega) (by omega)).trans (F5.old i hi)) (by omega) ?_
                · show st.next + 3 ≤ s5.next + 1 + 1; omega
                · show s5.next < s5.next + 1 + 1; omega
                · show s5.next + 1 + 1 ≤ s6.next; omega
                · exact hr.keep fun i hi => (fr i (by omega) (by omega)).trans ((f5 i (by omega)).trans (F4.old i (by omega)))
              have hmm : manyOf (done ++ [x]) = manyOf done + manyOf [x] := manyOf_append _ _
              rw [manyOf_one] at hmm
              have hns : namesOf (done ++ [x]) = namesOf done ++ x.names := by rw [namesOf_append]; simp [namesOf]
              have hmeas : ((ps.length : Int) - ((j : Int) + 1)).toNat < ((ps.length : Int) - (j : Int)).toNat := by omega
              have hrest' : ∀ i y, (done ++ [x])[i]? = some y → i + 1 < ps.length → y.mks.f = false := fun i y hi hil => by
                by_cases hid : i < done.length
                · rw [List.getElem?_append_left hid] at hi; exact hrest i y hi hil
                · rw [List.getElem?_append_right (by omega)] at hi
                  have e0 : i - done.length = 0 := by
                    have := (List.getElem?_eq_some_iff.1 hi).1
                    simp at this
                    omega
                  rw [e0] at hi
                  simp at hi
                  subst hi
                  first
                  | exact hfv
                  | (exfalso; omega)
              have fin : ∀ (many : Int) v' s6, many = (manyOf (done ++ [x]) : Nat) → ItR (st.next + 3) s6 v' (done ++ [x]) → s6.get st.next = some (.map es c) → (∀ i, i < st.next → s6.get i = st.get i) → s5.next ≤ s6.next → Row1 s6 pv (ps.map Value.string) →
                  TL1 st pv ps [v', .map (some st.next), pv, .int .i64 many, pv, .int .i64 (ps.length : Nat), .int .i64 ((j : Int) + 1)] s6 := fun many v' s6 e k1 k2 k3 k4 k5 => by
                subst e
                exact ⟨done ++ [x], j + 1, v', es, c, rfl, hjp, hsn x hx, k1, k2, by rw [hns]; exact hseen, by rw [hns]; exact hnd, hrest', by omega, k3, k5, by omega, hpl⟩
              have hml : manyOf done ≤ done.length := List.length_filter_le _ _
              cases hmv : x.mks.m with
              | true =>
                simp (disch := omega) only [↓sxA, ↓wk_store, sxB, sxP, Nat.reduceLeDiff, reduceCtorEq, Nat.reduceEqDiff, Nat.reduceAdd, Int.reduceLT, Int.reduceLE, Int.reduceEq, Nat.reduceLT, Int.reduceToNat, Int.reduceAdd, Int.reduceSub, ↓reduceIte, hbx5, hmv, ↓all5]
                rw [hmv] at lay
                refine lay _ fun v' s6 k1 k2 k3 k4 k5 => ?_
                simp (disch := omega) only [↓sxA, ↓wk_store, sxB, sxP, Nat.reduceLeDiff, reduceCtorEq, Nat.reduceEqDiff, Nat.reduceAdd, Int.reduceLT, Int.reduceLE, Int.reduceEq, Nat.reduceLT, Int.reduceToNat, Int.reduceAdd, Int.reduceSub, ↓reduceIte]
                exact ⟨_, rfl, fin _ v' s6 (by rw [hmm, if_pos hmv]; rfl) k1 k2 k3 k4 k5, hmeas⟩
              | false =>
                simp (disch := omega) only [↓sxA, ↓wk_store, sxB, sxP, Nat.reduceLeDiff, reduceCtorEq, Nat.reduceEqDiff, Nat.reduceAdd, Int.reduceLT, Int.reduceLE, Int.reduceEq, Nat.reduceLT, Int.reduceToNat, Int.reduceAdd, Int.reduceSub, ↓reduceIte, hbx5, hmv, ↓all5]
                rw [hmv] at lay
                refine lay _ fun v' s6 k1 k2 k3 k4 k5 => ?_
                simp (disch := omega) only [↓sxA, ↓wk_store, sxB, sxP, Nat.reduceLeDiff, reduceCtorEq, Nat.reduceEqDiff, Nat.reduceAdd, Int.reduceLT, Int.reduceLE, Int.reduceEq, Nat.reduceLT, Int.reduceToNat, Int.reduceAdd, Int.reduceSub, ↓reduceIte]
                exact ⟨_, rfl, fin _ v' s6 (by rw [hmm, if_neg (by rw [hmv]; decide)]; rfl) k1 k2 k3 k4 k5, hmeas⟩
    · have hjl : j = ps.length := by omega
      have hps : ps.take j = ps := List.take_of_length_le (by omega)
      rw [hps] at hit
      have hdl := itemsA_length hit
      have hlo := hR.len
      have hro : restOk done = true := (restOk_iff done).2 fun i y hi hl => hrest i y hi (by omega)
      by_cases hm1 : 1 < manyOf done
      · simp (disch := omega) only [↓sxA, ↓wk_store, sxB, sxP, Nat.reduceLeDiff, reduceCtorEq, Nat.reduceEqDiff, Nat.reduceAdd, Int.reduceLT, Int.reduceLE, Int.reduceEq, Nat.reduceLT, Int.reduceToNat, Int.reduceAdd, Int.reduceSub, ↓reduceIte]
        refine h [] 3 _ _ (hbadT fun l hl hg => ?_) (ItR.nil _ _) F
        rw [hit] at hl
        cases hl
        exact absurd hg.2.2 (by omega)
      · have hg : goodA done := ⟨hro, hnd, by omega⟩
        by_cases h20 : 20 < done.length
        · simp (disch := omega) only [↓sxA, ↓wk_store, sxB, sxP, Nat.reduceLeDiff, reduceCtorEq, Nat.reduceEqDiff, Nat.reduceAdd, Int.reduceLT, Int.reduceLE, Int.reduceEq, Nat.reduceLT, Int.reduceToNat, Int.reduceAdd, Int.reduceSub, ↓reduceIte, ↓hlo]
          exact h [] 2 _ _ (hlongT done hit hg h20) (ItR.nil _ _) F
        · simp (disch := omega) only [↓sxA, ↓wk_store, sxB, sxP, Nat.reduceLeDiff, reduceCtorEq, Nat.reduceEqDiff, Nat.reduceAdd, Int.reduceLT, Int.reduceLE, Int.reduceEq, Nat.reduceLT, Int.reduceToNat, Int.reduceAdd, Int.reduceSub, ↓reduceIte, ↓hlo]
          exact h done 0 _ _ (hokT done hit hg (by omega)) (hR.weak (by omega)) F
end
end Go.Proofs.YtdmemibnphcedaaGreatDoor
