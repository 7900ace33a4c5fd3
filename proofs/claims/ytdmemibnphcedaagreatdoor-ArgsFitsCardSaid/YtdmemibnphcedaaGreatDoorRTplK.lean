/-
  Usage, by the program.
-/
import Derived.Test.YtdmemibnphcedaaGreatDoorRTplJ
set_option linter.unusedSimpArgs false
set_option linter.unusedVariables false
set_option maxRecDepth 10000
set_option linter.unusedSectionVars false
namespace Go.Proofs.YtdmemibnphcedaaGreatDoor
open Go.Am

theorem bs_append (l m : List UInt8) : bs l ++ bs m = bs (l ++ m) := by
  apply ByteArray.ext
  simp [bs]
theorem join_len (c : UInt8) : ∀ xs : List (List UInt8), (Lib.join xs [c]).length ≤ (xs.map fun p => p.length + 1).sum
  | [] => by simp [Lib.join_nil]
  | x :: r => by
    rw [Lib.join_cons, List.length_append]
    have : ∀ r : List (List UInt8), (Lib.joinTail [c] r).length = (r.map fun p => p.length + 1).sum := fun r => by
      induction r with
      | nil => rfl
      | cons y r ih =>
        simp only [Lib.joinTail, List.map_cons, List.flatten_cons, List.length_append, List.length_cons, List.length_nil, List.sum_cons] at ih ⊢
        omega
    rw [this]
    simp only [List.map_cons, List.sum_cons]
    omega
theorem join_snoc (sep : List UInt8) (xs : List (List UInt8)) (y : List UInt8) : Lib.join (xs ++ [y]) sep = Lib.join xs sep ++ (if xs = [] then [] else sep) ++ y := by
  cases xs with
  | nil => simp [Lib.join_one, Lib.join_nil]
  | cons x r =>
    rw [List.cons_append, Lib.join_cons, Lib.join_cons]
    simp [Lib.joinTail, List.append_assoc]

theorem itemA_text {s : ByteArray} {x : IM} (h : itemA s = some x) : x.names ≠ [] ∧ (Lib.join (x.names.map (·.data.toList)) [61]).length ≤ s.size + 1 := by
  unfold itemA at h
  split at h
  · rename_i hd t hp
    split at h
    · rename_i mks hm
      split at h
      · cases h
        have h2 := pieces_size (c := 47) (s := s) (p := hd) (by rw [hp]; simp)
        refine ⟨pieces_ne 61 hd, ?_⟩
        have e : (pieces 61 hd).map (·.data.toList) = spl 61 hd.data.toList := by
          rw [pieces, List.map_map]
          conv => rhs; rw [← List.map_id (spl 61 hd.data.toList)]
          exact List.map_congr_left fun l _ => bs_list l
        have h1 := join_len 61 (spl 61 hd.data.toList)
        rw [spl_sum, ← size_list] at h1
        show (Lib.join ((pieces 61 hd).map (·.data.toList)) [61]).length ≤ _
        rw [e]
        omega
      · cases h
    · cases h
  · cases h
theorem items_mem : ∀ {ps : List ByteArray} {l : List IM}, itemsA ps = some l → ∀ x ∈ l, ∃ p ∈ ps, itemA p = some x
  | [], l, h, x, hx => by simp [itemsA] at h; subst h; cases hx
  | p :: ps, l, h, x, hx => by
    simp only [itemsA] at h
    cases hp : itemA p with
    | none => rw [hp] at h; cases h
    | some y =>
      rw [hp] at h
      simp only [Option.map_eq_some_iff] at h
      obtain ⟨m, h1, rfl⟩ := h
      rcases List.mem_cons.1 hx with rfl | hx
      · exact ⟨p, by simp, hp⟩
      · obtain ⟨q, k1, k2⟩ := items_mem h1 x hx
        exact ⟨q, by simp [k1], k2⟩
theorem tm_bounds {t : ByteArray} {l : List IM} {e : Int} (h : TmA t l e) : l.length ≤ 20 ∧ (e ≠ 0 → l = []) ∧ ∀ x ∈ l, x.names ≠ [] ∧ x.names.length ≤ t.size + 1 ∧ (Lib.join (x.names.map (·.data.toList)) [61]).length ≤ t.size + 1 := by
  cases h with
  | nil _ => exact ⟨Nat.zero_le _, fun _ => rfl, fun x hx => by cases hx⟩
  | long _ _ _ _ _ => exact ⟨Nat.zero_le _, fun _ => rfl, fun x hx => by cases hx⟩
  | bad _ _ => exact ⟨Nat.zero_le _, fun _ => rfl, fun x hx => by cases hx⟩
  | ok _ h0 h1 h2 h3 =>
    refine ⟨h3, fun h => (h rfl).elim, fun x hx => ?_⟩
    obtain ⟨p, hp, hpx⟩ := items_mem h1 x hx
    have hs := pieces_size hp
    obtain ⟨k1, k2⟩ := itemA_text hpx
    have k3 := itemA_names hpx
    exact ⟨k1, by omega, by omega⟩

theorem lt_size (i : Nat) : (lt i).size = 1 := rfl
theorem order_at (p : Nat) (h : p < 6) : order.extract p (p + 1) = lt p ∧ (Utf8.decode order p).2 = 1 := by
  match p, h with
  | 0, _ | 1, _ | 2, _ | 3, _ | 4, _ | 5, _ => constructor <;> decide +kernel

section
variable {K : Value → Prop}
theorem q_addS (a b : ByteArray) (h : a.size + b.size ≤ 9223372036854775807) : popK (.bin .add) [.string a, .string b] K = K (.string (a ++ b)) := by
  rw [pk_addS]
  exact propext ⟨fun h => h.2, fun k => ⟨h, k⟩⟩
end
attribute [local irreducible] callO wopK ropK popK opK grpsE listE sx Runs

/-- between two items -/
def UL1 (s0 : St) (lv : Value) (l : List IM) (vs : List Value) (s : St) : Prop :=
  ∃ (j : Nat) (out : Value), vs = [out, lv, .int .i64 (l.length : Nat), .int .i64 (j : Nat)] ∧ j ≤ l.length ∧ GroK 1 s out (((l.take j).map fun x => bs (itText x)).map Value.string) j ∧ (ow out = 0 ∨ s0.next + 1 ≤ ow out) ∧ ow out ≤ s.next ∧ Frm s0 s ∧ (j = 0 → out = .slice none 0 0)

/-- between two marks -/
def UL2 (s1 : St) (lv out nv : Value) (l : List IM) (x : IM) (bx j it : Nat) (vs : List Value) (s : St) : Prop :=
  ∃ p : Nat, vs = [out, .pointer (some ⟨bx, 0, none⟩), .string (bs (Lib.join (x.names.map (·.data.toList)) [61] ++ mkUp x.mks p)), lv, .int .i64 (l.length : Nat), .int .i64 (j : Nat), .pointer (some ⟨it, 0, none⟩)] ∧ p ≤ 6 ∧
    s.get it = some (.strIter order p) ∧ it < s.next ∧ ∀ i, i < it → s.get i = s1.get i

section
variable {st : St} {K : Value → St → Prop}

set_option maxHeartbeats 4000000 in
theorem kUsage (n : Nat) (t : ByteArray) (ht : t.size < 80000) (h0 : 0 < st.next) (hm : hasMax st = true) (h : ∀ l e st', TmA t l e → Frm st st' → K (.tuple #[.string (if e = 0 then bs (usText l) else .empty), .int .i64 e]) st') :
    callK (callO T0 orc fns 100000 (n + 7)) 19 [.string t] st K := by
  refine fn_runs (fn := g19) ?_ ?_ ?_
  · rfl
  · rfl
  unfold g19
  simp (disch := omega) only [↓sxA, ↓wk_store, sxB, sxP, Nat.reduceLeDiff, reduceCtorEq, Nat.reduceEqDiff, Nat.reduceAdd, Int.reduceLT, Int.reduceLE, Int.reduceEq, Nat.reduceLT, Int.reduceToNat, Int.reduceAdd, Int.reduceSub, ↓reduceIte]
  refine kTemplate n t ht h0 hm fun l e lv s0 hT hR F0 => ?_
  obtain ⟨hl20, hle, hb⟩ := tm_bounds hT
  by_cases he : e = 0
  case neg =>
    have he' : (e = 0) = False := eq_false he
    have hh := h l e s0 hT F0
    rw [if_neg he] at hh
    simp (disch := omega) only [↓sxA, ↓wk_store, sxB, sxP, Nat.reduceLeDiff, reduceCtorEq, Nat.reduceEqDiff, Nat.reduceAdd, Int.reduceLT, Int.reduceLE, Int.reduceEq, Nat.reduceLT, Int.reduceToNat, Int.reduceAdd, Int.reduceSub, ↓reduceIte, he']
    exact hh
  subst he
  have hln := hR.len
  simp (disch := omega) only [↓sxA, ↓wk_store, sxB, sxP, Nat.reduceLeDiff, reduceCtorEq, Nat.reduceEqDiff, Nat.reduceAdd, Int.reduceLT, Int.reduceLE, Int.reduceEq, Nat.reduceLT, Int.reduceToNat, Int.reduceAdd, Int.reduceSub, ↓reduceIte, ↓hln]
  refine loop_rule [6, 19, 20, 21] (UL1 s0 lv l) (fun vs _ => match lget vs 3 with
      | .int _ k => ((l.length : Int) - k).toNat
      | _ => 0) ?_ ?_ ?_
  · rfl
  · refine ⟨_, rfl, ⟨0, _, rfl, Nat.zero_le _, GroK.nil _ _, .inl rfl, Nat.zero_le _, Frm.refl _, fun _ => rfl⟩, ?_⟩
    show ((l.length : Int) - 0).toNat < 100000
    omega
  · rintro vs s ⟨j, out, rfl, hj, hg, ho, hon, F, hj0⟩
    show sx _ _ _ _ _ [(6, _), (19, _), (20, _), (21, _)] _ _ _ _
    have hRs : ItR (st.next + 1) s lv l := hR.keep F.nx fun i _ hi => F.old i hi
    by_cases hjl : j < l.length
    · obtain ⟨b, nv, q1, q2, q3, q4, q5, q6, q7⟩ := hRs.at hjl
      have hx : l[j] ∈ l := List.getElem_mem hjl
      obtain ⟨b1, b2, b3⟩ := hb _ hx
      have htk : l.take (j + 1) = l.take j ++ [l[j]] := by rw [List.take_add_one, List.getElem?_eq_getElem hjl]; rfl
      generalize l[j] = x at q2 q3 q4 b1 b2 b3 htk
      obtain ⟨s1, hs1⟩ : ∃ s1, s1 = (s.new (.row zero7 0 false)).put s.next (some (.row [nv, .bool x.mks.a, .bool x.mks.k, .bool x.mks.s, .bool x.mks.n, .bool x.mks.m, .bool x.mks.f] 0 false)) := ⟨_, rfl⟩
      have st7 : ∀ W : Value → St → Prop, wopK (.store 7) [.pointer (some ⟨s.next, 0, none⟩), .agg (itCells nv x.mks).toArray] (s.new (.row zero7 0 false)) W = W undef s1 :=
        fun W => by rw [hs1]; exact wk_storeK (W := W) (get_new_same s (.row zero7 0 false)) (o := 0) (k := 7) (xs := itCells nv x.mks) (by decide) rfl (it7 q5 _)
      have hbx : s1.get s.next = some (.row [nv, .bool x.mks.a, .bool x.mks.k, .bool x.mks.s, .bool x.mks.n, .bool x.mks.m, .bool x.mks.f] 0 false) := by rw [hs1]; exact get_put_same _ _ _
      have n1 : s1.next = s.next + 1 := by rw [hs1]; rfl
      have f1 : ∀ i, i < s.next → s1.get i = s.get i := fun i hi => by rw [hs1, get_put_ne _ _ _ _ (by omega), get_new_ne _ _ _ (by omega)]
      simp (disch := omega) only [↓sxA, ↓wk_store, sxB, sxP, Nat.reduceLeDiff, reduceCtorEq, Nat.reduceEqDiff, Nat.reduceAdd, Int.reduceLT, Int.reduceLE, Int.reduceEq, Nat.reduceLT, Int.reduceToNat, Int.reduceAdd, Int.reduceSub, ↓reduceIte, ↓q1, ↓q2, ↓st7, hbx]
      refine kJoin (n + 6) (xs := x.names) (q4.keep fun i hi => f1 i (by omega)) ⟨#[61]⟩ (by omega) (by show (Lib.join _ [61]).length ≤ _; omega) (fun hx => (b1 hx).elim) ?_
      simp (disch := omega) only [wk_rangeS, ↓sxA, ↓wk_store, sxB, sxP, Nat.reduceLeDiff, reduceCtorEq, Nat.reduceEqDiff, Nat.reduceAdd, Int.reduceLT, Int.reduceLE, Int.reduceEq, Nat.reduceLT, Int.reduceToNat, Int.reduceAdd, Int.reduceSub, ↓reduceIte]
      refine loop_rule [6, 8, 9, 19, 20, 21, 28] (UL2 s1 lv out nv l x s.next j s1.next) (fun vs s' => match s'.get s1.next with
          | some (.strIter _ p) => 6 - p
          | _ => 0) ?_ ?_ ?_
      · rfl
      · refine ⟨_, rfl, ⟨0, by first | (simp only [mkUp, List.append_nil]; done) | (simp only [mkUp, List.append_nil]; rfl), by decide, get_new_same _ _, Nat.lt_succ_self _, fun i hi => get_new_ne _ _ _ (by omega)⟩, ?_⟩
        rw [get_new_same]
        decide
      · rintro vs s2 ⟨p, rfl, hp, hit, hin, hf2⟩
        show sx _ _ _ _ _ [(6, _), (8, _), (9, _), (19, _), (20, _), (21, _), (28, _)] _ _ _ _
        have hmu := mkUp_len x.mks p
        by_cases hp6 : p < 6
        · obtain ⟨o1, o2⟩ := order_at p hp6
          simp (disch := omega) only [↓sxA, ↓wk_store, sxB, sxP, Nat.reduceLeDiff, reduceCtorEq, Nat.reduceEqDiff, Nat.reduceAdd, Int.reduceLT, Int.reduceLE, Int.reduceEq, Nat.reduceLT, Int.reduceToNat, Int.reduceAdd, Int.reduceSub, ↓reduceIte]
          refine next_chr hit (by show p < 6; exact hp6) ?_
          rw [o2]
          have hbx2 : (s2.put s1.next (some (.strIter order (p + 1)))).get s.next = some (.row [nv, .bool x.mks.a, .bool x.mks.k, .bool x.mks.s, .bool x.mks.n, .bool x.mks.m, .bool x.mks.f] 0 false) := by rw [get_put_ne _ _ _ _ (by omega), hf2 _ (by omega)]; exact hbx
          have all2 := rk_loadAll (k := 7) hbx2 rfl (by decide)
          simp (disch := omega) only [↓sxA, ↓wk_store, sxB, sxP, Nat.reduceLeDiff, reduceCtorEq, Nat.reduceEqDiff, Nat.reduceAdd, Int.reduceLT, Int.reduceLE, Int.reduceEq, Nat.reduceLT, Int.reduceToNat, Int.reduceAdd, Int.reduceSub, ↓reduceIte, ↓all2]
          refine kMarks (n + 5) (x := x.mks) q5 fun s3 n3 f3 => ?_
          have n3' : s2.next ≤ s3.next := n3
          have hit3 : s3.get s1.next = some (.strIter order (p + 1)) := (f3 _ hin).trans (get_put_same _ _ _)
          have hf3 : ∀ i, i < s1.next → s3.get i = s1.get i := fun i hi => (f3 i (by show i < s2.next; omega)).trans ((get_put_ne _ _ _ _ (by omega)).trans (hf2 i hi))
          have hmeas : (match s3.get s1.next with
            | some (.strIter _ p) => 6 - p
            | _ => 0) < (match s2.get s1.next with
            | some (.strIter _ p) => 6 - p
            | _ => 0) := by rw [hit3, hit]; show 6 - (p + 1) < 6 - p; omega
          have hsz2 := bs_size (Lib.join (x.names.map (·.data.toList)) [61] ++ mkUp x.mks p)
          rw [List.length_append] at hsz2
          have q2' : (p2 p = 0) = False := eq_false (by match p, hp6 with
            | 0, _ | 1, _ | 2, _ | 3, _ | 4, _ | 5, _ => decide)
          cases hbit : x.mks.bit p with
          | true =>
            have s6 : (6 : Nat) = order.size := rfl
            have ex : ∀ K : Value → Prop, popK (.slStr true true) [.string ⟨#[97, 107, 115, 110, 109, 102]⟩, .int .i64 (p : Int), .int .i64 ((p : Int) + 1)] K = K (.string (lt p)) := fun K => by
              have := q_slBoth (K := K) order .i64 .i64 (p : Int) ((p : Int) + 1) (by omega) (by omega) (by show (p : Int) + 1 ≤ (6 : Int); omega)
              rw [← o1]
              exact this
            have sl1 : (⟨#[47]⟩ : ByteArray).size = 1 := rfl
            have sl2 := lt_size p
            have sl3 : (⟨#[47]⟩ ++ lt p : ByteArray).size = 2 := by rw [ByteArray.size_append]; rfl
            simp (disch := omega) only [popShl, shl_p2 p hp6, popAnd, and_bit x.mks p hp6, hbit, b2i, q2', ↓ex, ↓q_addS, ↓sxA, ↓wk_store, sxB, sxP, Nat.reduceLeDiff, reduceCtorEq, Nat.reduceEqDiff, Nat.reduceAdd, Int.reduceLT, Int.reduceLE, Int.reduceEq, Nat.reduceLT, Int.reduceToNat, Int.reduceAdd, Int.reduceSub, ↓reduceIte]
            refine ⟨_, rfl, ⟨p + 1, ?_, by omega, hit3, by omega, hf3⟩, hmeas⟩
            have e : bs (Lib.join (x.names.map (·.data.toList)) [61] ++ mkUp x.mks p) ++ (⟨#[47]⟩ ++ lt p) = bs (Lib.join (x.names.map (·.data.toList)) [61] ++ mkUp x.mks (p + 1)) := by
              have e1 : (⟨#[47]⟩ ++ lt p : ByteArray) = bs (47 :: (lt p).data.toList) := rfl
              rw [e1, bs_append, mkUp, hbit, List.append_assoc]
              rfl
            rw [e]
          | false =>
            simp (disch := omega) only [popShl, shl_p2 p hp6, popAnd, and_bit x.mks p hp6, hbit, b2i, ↓sxA, ↓wk_store, sxB, sxP, Nat.reduceLeDiff, reduceCtorEq, Nat.reduceEqDiff, Nat.reduceAdd, Int.reduceLT, Int.reduceLE, Int.reduceEq, Nat.reduceLT, Int.reduceToNat, Int.reduceAdd, Int.reduceSub, ↓reduceIte]
            refine ⟨_, rfl, ⟨p + 1, ?_, by omega, hit3, by omega, hf3⟩, hmeas⟩
            rw [mkUp, hbit]
            simp
        · have e6 : p = 6 := by omega
          subst e6
          simp (disch := omega) only [↓sxA, ↓wk_store, sxB, sxP, Nat.reduceLeDiff, reduceCtorEq, Nat.reduceEqDiff, Nat.reduceAdd, Int.reduceLT, Int.reduceLE, Int.reduceEq, Nat.reduceLT, Int.reduceToNat, Int.reduceAdd, Int.reduceSub, ↓reduceIte]
          refine next_chrEnd hit (by show ¬ 6 < 6; decide) ?_
          simp (disch := omega) only [↓sxA, ↓wk_store, sxB, sxP, Nat.reduceLeDiff, reduceCtorEq, Nat.reduceEqDiff, Nat.reduceAdd, Int.reduceLT, Int.reduceLE, Int.reduceEq, Nat.reduceLT, Int.reduceToNat, Int.reduceAdd, Int.reduceSub, ↓reduceIte]
          rw [mkUp6]
          have hnx2 : ∀ o, (s2.new o).next = s2.next + 1 := fun _ => rfl
          refine appendK (hg.keep fun i hi => (get_new_ne _ _ _ (by omega)).trans ((hf2 i (by omega)).trans (f1 i (by omega)))) (get_new_same _ _) rfl (by decide) rfl (by omega) (by omega) fun s3 k1 k2 k3 => ?_
          have k2' : s3.next = s2.next + 2 := k2
          simp (disch := omega) only [↓sxA, ↓wk_store, sxB, sxP, Nat.reduceLeDiff, reduceCtorEq, Nat.reduceEqDiff, Nat.reduceAdd, Int.reduceLT, Int.reduceLE, Int.reduceEq, Nat.reduceLT, Int.reduceToNat, Int.reduceAdd, Int.reduceSub, ↓reduceIte]
          refine ⟨_, rfl, ⟨j + 1, .slice (some ⟨s2.next + 1, 0, none⟩) (j + 1) (j + 1), rfl, hjl, ?_, .inr ?_, ?_, ⟨by have := F.nx; omega, fun i hi => ?_⟩, fun h => by omega⟩, ?_⟩
          · rw [htk, List.map_append, List.map_append]
            exact k1
          · show s0.next + 1 ≤ s2.next + 1 + 1
            have := F.nx
            omega
          · show s2.next + 1 + 1 ≤ s3.next
            omega
          · have := F.nx
            exact (k3 i (by omega) (by show i < s2.next + 1; omega)).trans ((get_new_ne _ _ _ (by omega)).trans ((hf2 i (by omega)).trans ((f1 i (by omega)).trans (F.old i hi))))
          · show ((l.length : Int) - ((j : Int) + 1)).toNat < ((l.length : Int) - (j : Int)).toNat
            omega
    · have hjl' : l.take j = l := List.take_of_length_le (by omega)
      rw [hjl'] at hg
      have hmap : ((l.map fun x => bs (itText x)).map (·.data.toList)) = l.map itText := by
        rw [List.map_map]
        exact List.map_congr_left fun x _ => bs_list _
      have htl : ∀ x ∈ l, (itText x).length + 1 ≤ 90000 := fun x hx => by
        obtain ⟨_, _, b3⟩ := hb x hx
        have := mkUp_len x.mks 6
        rw [mkUp6] at this
        rw [itText, List.length_append]
        omega
      have hsum : ∀ m : List IM, (∀ x ∈ m, (itText x).length + 1 ≤ 90000) → ((m.map itText).map fun p => p.length + 1).sum ≤ m.length * 90000 := fun m hm => by
        induction m with
        | nil => simp
        | cons x m ih =>
          simp only [List.map_cons, List.sum_cons, List.length_cons]
          have h1 := hm x (by simp)
          have h2 := ih fun y hy => hm y (by simp [hy])
          rw [Nat.add_mul]
          omega
      have hj1 := join_len 44 (l.map itText)
      have hj2 := hsum l htl
      simp (disch := omega) only [↓sxA, ↓wk_store, sxB, sxP, Nat.reduceLeDiff, reduceCtorEq, Nat.reduceEqDiff, Nat.reduceAdd, Int.reduceLT, Int.reduceLE, Int.reduceEq, Nat.reduceLT, Int.reduceToNat, Int.reduceAdd, Int.reduceSub, ↓reduceIte]
      refine kJoin (n + 6) (xs := l.map fun x => bs (itText x)) hg.cel.1 ⟨#[44]⟩ (by rw [List.length_map]; omega) (by rw [hmap]; show (Lib.join _ [44]).length ≤ _; omega) (fun hx => hj0 (by rw [List.map_eq_nil_iff] at hx; rw [hx] at hj; simpa using hj)) ?_
      rw [hmap]
      simp (disch := omega) only [↓sxA, ↓wk_store, sxB, sxP, Nat.reduceLeDiff, reduceCtorEq, Nat.reduceEqDiff, Nat.reduceAdd, Int.reduceLT, Int.reduceLE, Int.reduceEq, Nat.reduceLT, Int.reduceToNat, Int.reduceAdd, Int.reduceSub, ↓reduceIte]
      have hh := h l 0 s hT (F0.trans F)
      rw [if_pos rfl] at hh
      exact hh
end
end Go.Proofs.YtdmemibnphcedaaGreatDoor
