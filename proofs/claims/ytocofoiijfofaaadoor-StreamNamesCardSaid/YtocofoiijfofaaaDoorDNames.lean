/-
  StreamNames on the second machine.
-/
import Derived.Test.YtocofoiijfofaaaDoorDResolve
set_option linter.unusedSimpArgs false
set_option linter.unusedVariables false
set_option maxRecDepth 10000
namespace Go.Proofs.YtocofoiijfofaaaDoor
open Go.Am
attribute [local irreducible] callO

theorem k6 (n : Nat) (st : St) (K : Value → St → Prop) (hm : hasMax st = true) : callK (callO T0 orc fns 1000 n) 6 [] st K = K (.bool true) st := by
  rw [callO_none (by rfl)]
  simp only [callK, orc, if_true, hm]
  rfl

theorem index_colon (l r : List UInt8) (h : l.contains 58 = false) : Lib.index (l ++ 58 :: r) [58] = l.length := by
  induction l with
  | nil => simp [Lib.index]
  | cons x l ih =>
    simp only [List.contains_cons, Bool.or_eq_false_iff, beq_eq_false_iff_ne, ne_eq] at h
    have := ih h.2
    simp only [List.cons_append, Lib.index, this]
    have hx : ([58].isPrefixOf (x :: (l ++ 58 :: r))) = false := by
      simp only [List.isPrefixOf, Bool.and_eq_false_iff, beq_eq_false_iff_ne, ne_eq]
      exact .inl h.1
    rw [hx]
    have h1 : (((l.length : Nat) : Int) == -1) = false := by simp only [beq_eq_false_iff_ne, ne_eq]; omega
    simp only [h1, Bool.false_eq_true, if_false, List.length_cons]
    omega

theorem cut_colon (p q : ByteArray) (h : p.data.toList.contains 58 = false) : cutP (p ++ sColon ++ q) = p ∧ cutQ (p ++ sColon ++ q) = q := by
  have e : (p ++ sColon ++ q).data.toList = p.data.toList ++ 58 :: q.data.toList := by
    simp [sColon]
  have hi := index_colon p.data.toList q.data.toList h
  have hc : Lib.cut (p ++ sColon ++ q).data.toList sColon.data.toList = (p.data.toList, q.data.toList, true) := by
    show Lib.cut (p ++ sColon ++ q).data.toList [58] = _
    rw [e]
    unfold Lib.cut
    rw [hi, if_pos (by omega)]
    have h1 : ((p.data.toList.length : Int)).toNat = p.data.toList.length := by omega
    have h2 : (p.data.toList ++ 58 :: q.data.toList).drop (p.data.toList.length + 1) = q.data.toList := by
      rw [← List.drop_drop, List.drop_left]; rfl
    have h3 : (p.data.toList ++ 58 :: q.data.toList).take p.data.toList.length = p.data.toList := List.take_left
    rw [h1, h3]
    show (_, (p.data.toList ++ 58 :: q.data.toList).drop (p.data.toList.length + 1), true) = _
    rw [h2]
  have hok : cutOk (p ++ sColon ++ q) sColon = true := by unfold cutOk; rw [hc]
  unfold cutP cutQ
  rw [if_pos hok, if_pos hok]
  unfold cutA cutB
  rw [hc]
  exact ⟨bytes_ext (by simp), bytes_ext (by simp)⟩

theorem given_colon {p : ByteArray} (h : given p = true) : p.data.toList.contains 58 = false := by
  simp only [given, Bool.or_eq_true, decide_eq_true_eq] at h
  rcases h with (h | h) | h <;> rw [h] <;> decide

theorem nthK_of {cs : List Value} {o : Nat} {v : Value} (h : cs[o]? = some v) (K : Value → Prop) : nthK cs o K = K v := by unfold nthK; rw [h]

theorem hasMax_of {s s' : St} (h : s'.get 0 = s.get 0) : hasMax s' = hasMax s := by unfold hasMax; rw [h]

set_option maxHeartbeats 1000000 in
theorem k3 (n : Nat) (q : Nat) (sl : Option Addr) (len cap : Nat) (ls : List ByteArray) (name : ByteArray) (st : St) (K : Value → St → Prop) (hm : hasMax st = true) (h0 : 0 < st.next) (hq0 : q < st.next) (hlen : ls.length = 2 * len) (hsl : 0 < len → sl = some ⟨q, 0, none⟩ ∧ st.get q = some (.row (ls.map Value.string) 0 true))
    (h : ∀ st', K (.bool true) st') : callK (callO T0 orc fns 1000 (n + 6)) 3 [.slice sl len cap, .string name] st K := by
  refine fn_runs (fn := g3) ?_ ?_ ?_
  · rfl
  · rfl
  unfold g3
  rcases Bool.eq_false_or_eq_true (decide ((30 : Int) < (len : Int))) with a1 | a1
  · simp only [↓getE_cons, ↓argE_t, ↓argE_c, ↓argE_g, ↓argsE_nil, ↓argsE_cons, ↓opE_eq, ↓listE_nil, ↓listE_some, ↓listE_none, ↓grpsE_nil, ↓grpsE_some, ↓grpsE_none, ↓getU_cons, ↓putK_nil, ↓putK_some, ↓putK_none, ↓putU_nil, ↓putU_some, ↓putU_none, ↓grpsE_grp, ↓grpJ_yes, ↓isNo_bool, ↓isNo_undef, ↓isNo_tuple, ↓grpJ_no, ↓sx_skip, ↓sx_region, ↓sx_seq, ↓sx_cond, ↓sx_block, ↓sx_loop, ↓sx_exit, ↓sx_ret, ↓condK_yes, ↓condK_no, ↓fnP_0, ↓fnP_1, ↓fnP_2, ↓fnP_3, ↓fnP_4, ↓opK_p, ↓opK_r, ↓opK_w, ↓opK_next, ↓opK_call, ↓opK_callV, ↓resP_0, ↓resP_1, ↓resP_2, ↓resP_3, ↓getK_some, ↓getK_put, ↓getK_new, ↓rowK_row, ↓mapK_map, ↓nthK_zero, ↓nthK_succ, ↓lget_zero, ↓lget_succ, ↓pk_move, ↓pk_pickT, ↓pk_pickF, ↓pk_not, ↓pk_neg, ↓pk_eqS, ↓pk_neqS, ↓pk_addS, ↓pk_eqI, ↓pk_neqI, ↓pk_lssI, ↓pk_leqI, ↓pk_gtrI, ↓pk_geqI, ↓pk_addI, ↓pk_subI, ↓pk_mulI, ↓pk_binB, ↓pk_nilPtr, ↓pk_nilMap, ↓pk_nilSlice, ↓pk_nilIfaceN, ↓pk_nilIface, ↓pk_build0, ↓pk_ext0, ↓pk_ext1, ↓pk_ext30, ↓pk_ext31, ↓pk_ext32, ↓pk_ext1_, ↓pk_lenStr, ↓pk_lenSl, ↓pk_fieldAddr, ↓pk_nilCheck, ↓pk_nilCheckI, ↓pk_indexAddr, ↓pk_indexAddrArr, ↓pk_mkIface, ↓pk_assertT, ↓pk_slLo, ↓pk_slHi, ↓rk_load1, ↓rk_lookupS, ↓rk_lookupI, ↓rk_lenMap, ↓wk_box, ↓wk_new, ↓wk_mkMap, ↓wk_store, ↓wk_mapSetS, ↓wk_mapSetI, isNo_bool, St.next_new, St.next_put, lputs_0, lputs_1, lputs_2, lputs_3, lputs_4, List.length_cons, List.length_nil, List.all_cons, List.all_nil, oneCell, Bool.and_true, Bool.true_and, Nat.reduceLeDiff, eq_self, List.toList_toArray, isNo_undef, isNo_tuple, ↓reduceIte, if_true, if_false, reduceCtorEq, Nat.reduceEqDiff, Nat.reduceAdd, Nat.zero_add, Nat.add_zero, Option.getD_some, Option.some.injEq, cond_true, cond_false, Value.bool.injEq, Bool.not_true, Bool.not_false, Bool.bne_true, Bool.bne_false, Option.isNone_some, Option.isNone_none, Bool.xor_false, Bool.xor_true, Bool.false_xor, Bool.true_xor, cellsOf, true_and, and_true, Bool.not_not, bne_self_eq_false, beq_self_eq_true, ↓k6, hm, a1]; exact h _
  rcases Bool.eq_false_or_eq_true (decide ((1000 : Int) < (name.size : Int))) with a2 | a2
  · simp only [↓getE_cons, ↓argE_t, ↓argE_c, ↓argE_g, ↓argsE_nil, ↓argsE_cons, ↓opE_eq, ↓listE_nil, ↓listE_some, ↓listE_none, ↓grpsE_nil, ↓grpsE_some, ↓grpsE_none, ↓getU_cons, ↓putK_nil, ↓putK_some, ↓putK_none, ↓putU_nil, ↓putU_some, ↓putU_none, ↓grpsE_grp, ↓grpJ_yes, ↓isNo_bool, ↓isNo_undef, ↓isNo_tuple, ↓grpJ_no, ↓sx_skip, ↓sx_region, ↓sx_seq, ↓sx_cond, ↓sx_block, ↓sx_loop, ↓sx_exit, ↓sx_ret, ↓condK_yes, ↓condK_no, ↓fnP_0, ↓fnP_1, ↓fnP_2, ↓fnP_3, ↓fnP_4, ↓opK_p, ↓opK_r, ↓opK_w, ↓opK_next, ↓opK_call, ↓opK_callV, ↓resP_0, ↓resP_1, ↓resP_2, ↓resP_3, ↓getK_some, ↓getK_put, ↓getK_new, ↓rowK_row, ↓mapK_map, ↓nthK_zero, ↓nthK_succ, ↓lget_zero, ↓lget_succ, ↓pk_move, ↓pk_pickT, ↓pk_pickF, ↓pk_not, ↓pk_neg, ↓pk_eqS, ↓pk_neqS, ↓pk_addS, ↓pk_eqI, ↓pk_neqI, ↓pk_lssI, ↓pk_leqI, ↓pk_gtrI, ↓pk_geqI, ↓pk_addI, ↓pk_subI, ↓pk_mulI, ↓pk_binB, ↓pk_nilPtr, ↓pk_nilMap, ↓pk_nilSlice, ↓pk_nilIfaceN, ↓pk_nilIface, ↓pk_build0, ↓pk_ext0, ↓pk_ext1, ↓pk_ext30, ↓pk_ext31, ↓pk_ext32, ↓pk_ext1_, ↓pk_lenStr, ↓pk_lenSl, ↓pk_fieldAddr, ↓pk_nilCheck, ↓pk_nilCheckI, ↓pk_indexAddr, ↓pk_indexAddrArr, ↓pk_mkIface, ↓pk_assertT, ↓pk_slLo, ↓pk_slHi, ↓rk_load1, ↓rk_lookupS, ↓rk_lookupI, ↓rk_lenMap, ↓wk_box, ↓wk_new, ↓wk_mkMap, ↓wk_store, ↓wk_mapSetS, ↓wk_mapSetI, isNo_bool, St.next_new, St.next_put, lputs_0, lputs_1, lputs_2, lputs_3, lputs_4, List.length_cons, List.length_nil, List.all_cons, List.all_nil, oneCell, Bool.and_true, Bool.true_and, Nat.reduceLeDiff, eq_self, List.toList_toArray, isNo_undef, isNo_tuple, ↓reduceIte, if_true, if_false, reduceCtorEq, Nat.reduceEqDiff, Nat.reduceAdd, Nat.zero_add, Nat.add_zero, Option.getD_some, Option.some.injEq, cond_true, cond_false, Value.bool.injEq, Bool.not_true, Bool.not_false, Bool.bne_true, Bool.bne_false, Option.isNone_some, Option.isNone_none, Bool.xor_false, Bool.xor_true, Bool.false_xor, Bool.true_xor, cellsOf, true_and, and_true, Bool.not_not, bne_self_eq_false, beq_self_eq_true, ↓k6, hm, a1, a2]; exact h _
  simp only [↓getE_cons, ↓argE_t, ↓argE_c, ↓argE_g, ↓argsE_nil, ↓argsE_cons, ↓opE_eq, ↓listE_nil, ↓listE_some, ↓listE_none, ↓grpsE_nil, ↓grpsE_some, ↓grpsE_none, ↓getU_cons, ↓putK_nil, ↓putK_some, ↓putK_none, ↓putU_nil, ↓putU_some, ↓putU_none, ↓grpsE_grp, ↓grpJ_yes, ↓isNo_bool, ↓isNo_undef, ↓isNo_tuple, ↓grpJ_no, ↓sx_skip, ↓sx_region, ↓sx_seq, ↓sx_cond, ↓sx_block, ↓sx_loop, ↓sx_exit, ↓sx_ret, ↓condK_yes, ↓condK_no, ↓fnP_0, ↓fnP_1, ↓fnP_2, ↓fnP_3, ↓fnP_4, ↓opK_p, ↓opK_r, ↓opK_w, ↓opK_next, ↓opK_call, ↓opK_callV, ↓resP_0, ↓resP_1, ↓resP_2, ↓resP_3, ↓getK_some, ↓getK_put, ↓getK_new, ↓rowK_row, ↓mapK_map, ↓nthK_zero, ↓nthK_succ, ↓lget_zero, ↓lget_succ, ↓pk_move, ↓pk_pickT, ↓pk_pickF, ↓pk_not, ↓pk_neg, ↓pk_eqS, ↓pk_neqS, ↓pk_addS, ↓pk_eqI, ↓pk_neqI, ↓pk_lssI, ↓pk_leqI, ↓pk_gtrI, ↓pk_geqI, ↓pk_addI, ↓pk_subI, ↓pk_mulI, ↓pk_binB, ↓pk_nilPtr, ↓pk_nilMap, ↓pk_nilSlice, ↓pk_nilIfaceN, ↓pk_nilIface, ↓pk_build0, ↓pk_ext0, ↓pk_ext1, ↓pk_ext30, ↓pk_ext31, ↓pk_ext32, ↓pk_ext1_, ↓pk_lenStr, ↓pk_lenSl, ↓pk_fieldAddr, ↓pk_nilCheck, ↓pk_nilCheckI, ↓pk_indexAddr, ↓pk_indexAddrArr, ↓pk_mkIface, ↓pk_assertT, ↓pk_slLo, ↓pk_slHi, ↓rk_load1, ↓rk_lookupS, ↓rk_lookupI, ↓rk_lenMap, ↓wk_box, ↓wk_new, ↓wk_mkMap, ↓wk_store, ↓wk_mapSetS, ↓wk_mapSetI, isNo_bool, St.next_new, St.next_put, lputs_0, lputs_1, lputs_2, lputs_3, lputs_4, List.length_cons, List.length_nil, List.all_cons, List.all_nil, oneCell, Bool.and_true, Bool.true_and, Nat.reduceLeDiff, eq_self, List.toList_toArray, isNo_undef, isNo_tuple, ↓reduceIte, if_true, if_false, reduceCtorEq, Nat.reduceEqDiff, Nat.reduceAdd, Nat.zero_add, Nat.add_zero, Option.getD_some, Option.some.injEq, cond_true, cond_false, Value.bool.injEq, Bool.not_true, Bool.not_false, Bool.bne_true, Bool.bne_false, Option.isNone_some, Option.isNone_none, Bool.xor_false, Bool.xor_true, Bool.false_xor, Bool.true_xor, cellsOf, true_and, and_true, Bool.not_not, bne_self_eq_false, beq_self_eq_true, ↓k6, hm, a1, a2]
  refine k7 (n + 3) st _ fun st1 n1 f1 p1 m1 => ?_
  have hm1 : hasMax st1 = true := by rw [hasMax_of (f1 0 h0)]; exact hm
  refine loop_rule [0, 1, 5, 6] (fun vs st' => ∃ (j : Nat) (es : List (Value × Value × Nat)) (c : Nat), vs = [.slice sl len cap, .string name, .pointer (some ⟨st.next, 0, none⟩), .int .i64 (j : Int)] ∧ j ≤ len ∧ hasMax st' = true ∧ (0 < len → st'.get q = some (.row (ls.map Value.string) 0 true)) ∧
      st'.get st.next = some (.row [.map (some (st.next + 1)), .map (some (st.next + 2)), .map (some (st.next + 3)), .map (some (st.next + 4)), .int .i64 0] 0 false) ∧ st'.get (st.next + 3) = some (.map es c) ∧ StrMap es)
    (fun vs _ => match lget vs 3 with
      | .int _ k => ((len : Int) - k).toNat
      | _ => 0) ?_ ?_ ?_
  · rfl
  · refine ⟨_, rfl, ⟨0, [], 0, rfl, Nat.zero_le _, hm1, fun hl => by rw [f1 q hq0]; exact (hsl hl).2, p1, m1 2 (by decide), StrMap.nil⟩, ?_⟩
    show ((len : Int) - 0).toNat < 1000
    have := of_decide_eq_false a1
    omega
  · rintro vs st' ⟨j, es, c, rfl, j1, j2, j3, j4, j5, j6⟩
    show sx _ _ _ _ _ [(0, _), (1, _), (5, _), (6, _)] _ _ _ _
    have j4K := getK_of j4
    rcases Bool.eq_false_or_eq_true (decide ((j : Int) < (len : Int))) with b1 | b1
    case inr =>
      simp only [↓getE_cons, ↓argE_t, ↓argE_c, ↓argE_g, ↓argsE_nil, ↓argsE_cons, ↓opE_eq, ↓listE_nil, ↓listE_some, ↓listE_none, ↓grpsE_nil, ↓grpsE_some, ↓grpsE_none, ↓getU_cons, ↓putK_nil, ↓putK_some, ↓putK_none, ↓putU_nil, ↓putU_some, ↓putU_none, ↓grpsE_grp, ↓grpJ_yes, ↓isNo_bool, ↓isNo_undef, ↓isNo_tuple, ↓grpJ_no, ↓sx_skip, ↓sx_region, ↓sx_seq, ↓sx_cond, ↓sx_block, ↓sx_loop, ↓sx_exit, ↓sx_ret, ↓condK_yes, ↓condK_no, ↓fnP_0, ↓fnP_1, ↓fnP_2, ↓fnP_3, ↓fnP_4, ↓opK_p, ↓opK_r, ↓opK_w, ↓opK_next, ↓opK_call, ↓opK_callV, ↓resP_0, ↓resP_1, ↓resP_2, ↓resP_3, ↓getK_some, ↓getK_put, ↓getK_new, ↓rowK_row, ↓mapK_map, ↓nthK_zero, ↓nthK_succ, ↓lget_zero, ↓lget_succ, ↓pk_move, ↓pk_pickT, ↓pk_pickF, ↓pk_not, ↓pk_neg, ↓pk_eqS, ↓pk_neqS, ↓pk_addS, ↓pk_eqI, ↓pk_neqI, ↓pk_lssI, ↓pk_leqI, ↓pk_gtrI, ↓pk_geqI, ↓pk_addI, ↓pk_subI, ↓pk_mulI, ↓pk_binB, ↓pk_nilPtr, ↓pk_nilMap, ↓pk_nilSlice, ↓pk_nilIfaceN, ↓pk_nilIface, ↓pk_build0, ↓pk_ext0, ↓pk_ext1, ↓pk_ext30, ↓pk_ext31, ↓pk_ext32, ↓pk_ext1_, ↓pk_lenStr, ↓pk_lenSl, ↓pk_fieldAddr, ↓pk_nilCheck, ↓pk_nilCheckI, ↓pk_indexAddr, ↓pk_indexAddrArr, ↓pk_mkIface, ↓pk_assertT, ↓pk_slLo, ↓pk_slHi, ↓rk_load1, ↓rk_lookupS, ↓rk_lookupI, ↓rk_lenMap, ↓wk_box, ↓wk_new, ↓wk_mkMap, ↓wk_store, ↓wk_mapSetS, ↓wk_mapSetI, isNo_bool, St.next_new, St.next_put, lputs_0, lputs_1, lputs_2, lputs_3, lputs_4, List.length_cons, List.length_nil, List.all_cons, List.all_nil, oneCell, Bool.and_true, Bool.true_and, Nat.reduceLeDiff, eq_self, List.toList_toArray, isNo_undef, isNo_tuple, ↓reduceIte, if_true, if_false, reduceCtorEq, Nat.reduceEqDiff, Nat.reduceAdd, Nat.zero_add, Nat.add_zero, Option.getD_some, Option.some.injEq, cond_true, cond_false, Value.bool.injEq, Bool.not_true, Bool.not_false, Bool.bne_true, Bool.bne_false, Option.isNone_some, Option.isNone_none, Bool.xor_false, Bool.xor_true, Bool.false_xor, Bool.true_xor, cellsOf, true_and, and_true, Bool.not_not, bne_self_eq_false, beq_self_eq_true, ↓k6, j2, b1]
      refine k9 (n + 2) st.next (st.next + 3) _ _ _ _ name es c st' _ j2 j4 j5 j6 (by have := of_decide_eq_false a2; omega) (fun e he _ => ?_) (fun pl pa hg hfu _ => ?_)
      · have he' : decide (e = 0) = false := decide_eq_false he
        simp only [↓getE_cons, ↓argE_t, ↓argE_c, ↓argE_g, ↓argsE_nil, ↓argsE_cons, ↓opE_eq, ↓listE_nil, ↓listE_some, ↓listE_none, ↓grpsE_nil, ↓grpsE_some, ↓grpsE_none, ↓getU_cons, ↓putK_nil, ↓putK_some, ↓putK_none, ↓putU_nil, ↓putU_some, ↓putU_none, ↓grpsE_grp, ↓grpJ_yes, ↓isNo_bool, ↓isNo_undef, ↓isNo_tuple, ↓grpJ_no, ↓sx_skip, ↓sx_region, ↓sx_seq, ↓sx_cond, ↓sx_block, ↓sx_loop, ↓sx_exit, ↓sx_ret, ↓condK_yes, ↓condK_no, ↓fnP_0, ↓fnP_1, ↓fnP_2, ↓fnP_3, ↓fnP_4, ↓opK_p, ↓opK_r, ↓opK_w, ↓opK_next, ↓opK_call, ↓opK_callV, ↓resP_0, ↓resP_1, ↓resP_2, ↓resP_3, ↓getK_some, ↓getK_put, ↓getK_new, ↓rowK_row, ↓mapK_map, ↓nthK_zero, ↓nthK_succ, ↓lget_zero, ↓lget_succ, ↓pk_move, ↓pk_pickT, ↓pk_pickF, ↓pk_not, ↓pk_neg, ↓pk_eqS, ↓pk_neqS, ↓pk_addS, ↓pk_eqI, ↓pk_neqI, ↓pk_lssI, ↓pk_leqI, ↓pk_gtrI, ↓pk_geqI, ↓pk_addI, ↓pk_subI, ↓pk_mulI, ↓pk_binB, ↓pk_nilPtr, ↓pk_nilMap, ↓pk_nilSlice, ↓pk_nilIfaceN, ↓pk_nilIface, ↓pk_build0, ↓pk_ext0, ↓pk_ext1, ↓pk_ext30, ↓pk_ext31, ↓pk_ext32, ↓pk_ext1_, ↓pk_lenStr, ↓pk_lenSl, ↓pk_fieldAddr, ↓pk_nilCheck, ↓pk_nilCheckI, ↓pk_indexAddr, ↓pk_indexAddrArr, ↓pk_mkIface, ↓pk_assertT, ↓pk_slLo, ↓pk_slHi, ↓rk_load1, ↓rk_lookupS, ↓rk_lookupI, ↓rk_lenMap, ↓wk_box, ↓wk_new, ↓wk_mkMap, ↓wk_store, ↓wk_mapSetS, ↓wk_mapSetI, isNo_bool, St.next_new, St.next_put, lputs_0, lputs_1, lputs_2, lputs_3, lputs_4, List.length_cons, List.length_nil, List.all_cons, List.all_nil, oneCell, Bool.and_true, Bool.true_and, Nat.reduceLeDiff, eq_self, List.toList_toArray, isNo_undef, isNo_tuple, ↓reduceIte, if_true, if_false, reduceCtorEq, Nat.reduceEqDiff, Nat.reduceAdd, Nat.zero_add, Nat.add_zero, Option.getD_some, Option.some.injEq, cond_true, cond_false, Value.bool.injEq, Bool.not_true, Bool.not_false, Bool.bne_true, Bool.bne_false, Option.isNone_some, Option.isNone_none, Bool.xor_false, Bool.xor_true, Bool.false_xor, Bool.true_xor, cellsOf, true_and, and_true, Bool.not_not, bne_self_eq_false, beq_self_eq_true, ↓k6, j2, he', decide_true]
        exact h _
      · have hsz : (pl ++ sColon ++ pa).size ≤ 5000 := by
          have s3 : sColon.size = 1 := rfl
          have := given_le hg
          have := full_le hfu
          simp only [ByteArray.size_append, s3]
          omega
        obtain ⟨c1, c2⟩ := cut_colon pl pa (given_colon hg)
        simp only [↓getE_cons, ↓argE_t, ↓argE_c, ↓argE_g, ↓argsE_nil, ↓argsE_cons, ↓opE_eq, ↓listE_nil, ↓listE_some, ↓listE_none, ↓grpsE_nil, ↓grpsE_some, ↓grpsE_none, ↓getU_cons, ↓putK_nil, ↓putK_some, ↓putK_none, ↓putU_nil, ↓putU_some, ↓putU_none, ↓grpsE_grp, ↓grpJ_yes, ↓isNo_bool, ↓isNo_undef, ↓isNo_tuple, ↓grpJ_no, ↓sx_skip, ↓sx_region, ↓sx_seq, ↓sx_cond, ↓sx_block, ↓sx_loop, ↓sx_exit, ↓sx_ret, ↓condK_yes, ↓condK_no, ↓fnP_0, ↓fnP_1, ↓fnP_2, ↓fnP_3, ↓fnP_4, ↓opK_p, ↓opK_r, ↓opK_w, ↓opK_next, ↓opK_call, ↓opK_callV, ↓resP_0, ↓resP_1, ↓resP_2, ↓resP_3, ↓getK_some, ↓getK_put, ↓getK_new, ↓rowK_row, ↓mapK_map, ↓nthK_zero, ↓nthK_succ, ↓lget_zero, ↓lget_succ, ↓pk_move, ↓pk_pickT, ↓pk_pickF, ↓pk_not, ↓pk_neg, ↓pk_eqS, ↓pk_neqS, ↓pk_addS, ↓pk_eqI, ↓pk_neqI, ↓pk_lssI, ↓pk_leqI, ↓pk_gtrI, ↓pk_geqI, ↓pk_addI, ↓pk_subI, ↓pk_mulI, ↓pk_binB, ↓pk_nilPtr, ↓pk_nilMap, ↓pk_nilSlice, ↓pk_nilIfaceN, ↓pk_nilIface, ↓pk_build0, ↓pk_ext0, ↓pk_ext1, ↓pk_ext30, ↓pk_ext31, ↓pk_ext32, ↓pk_ext1_, ↓pk_lenStr, ↓pk_lenSl, ↓pk_fieldAddr, ↓pk_nilCheck, ↓pk_nilCheckI, ↓pk_indexAddr, ↓pk_indexAddrArr, ↓pk_mkIface, ↓pk_assertT, ↓pk_slLo, ↓pk_slHi, ↓rk_load1, ↓rk_lookupS, ↓rk_lookupI, ↓rk_lenMap, ↓wk_box, ↓wk_new, ↓wk_mkMap, ↓wk_store, ↓wk_mapSetS, ↓wk_mapSetI, isNo_bool, St.next_new, St.next_put, lputs_0, lputs_1, lputs_2, lputs_3, lputs_4, List.length_cons, List.length_nil, List.all_cons, List.all_nil, oneCell, Bool.and_true, Bool.true_and, Nat.reduceLeDiff, eq_self, List.toList_toArray, isNo_undef, isNo_tuple, ↓reduceIte, if_true, if_false, reduceCtorEq, Nat.reduceEqDiff, Nat.reduceAdd, Nat.zero_add, Nat.add_zero, Option.getD_some, Option.some.injEq, cond_true, cond_false, Value.bool.injEq, Bool.not_true, Bool.not_false, Bool.bne_true, Bool.bne_false, Option.isNone_some, Option.isNone_none, Bool.xor_false, Bool.xor_true, Bool.false_xor, Bool.true_xor, cellsOf, true_and, and_true, Bool.not_not, bne_self_eq_false, beq_self_eq_true, ↓k6, j2, decide_true]
        refine k9 (n + 2) st.next (st.next + 3) _ _ _ _ (pl ++ sColon ++ pa) es c st' _ j2 j4 j5 j6 hsz (fun e he hb => ?_) (fun pl' pa' hg' hfu' heq => ?_)
        · rw [c1, c2, hg, hfu] at hb
          cases hb
        · obtain ⟨d1, d2⟩ := heq (by rw [c1]; exact hg)
          rw [c1] at d1
          rw [c2] at d2
          subst d1 d2
          simp only [↓getE_cons, ↓argE_t, ↓argE_c, ↓argE_g, ↓argsE_nil, ↓argsE_cons, ↓opE_eq, ↓listE_nil, ↓listE_some, ↓listE_none, ↓grpsE_nil, ↓grpsE_some, ↓grpsE_none, ↓getU_cons, ↓putK_nil, ↓putK_some, ↓putK_none, ↓putU_nil, ↓putU_some, ↓putU_none, ↓grpsE_grp, ↓grpJ_yes, ↓isNo_bool, ↓isNo_undef, ↓isNo_tuple, ↓grpJ_no, ↓sx_skip, ↓sx_region, ↓sx_seq, ↓sx_cond, ↓sx_block, ↓sx_loop, ↓sx_exit, ↓sx_ret, ↓condK_yes, ↓condK_no, ↓fnP_0, ↓fnP_1, ↓fnP_2, ↓fnP_3, ↓fnP_4, ↓opK_p, ↓opK_r, ↓opK_w, ↓opK_next, ↓opK_call, ↓opK_callV, ↓resP_0, ↓resP_1, ↓resP_2, ↓resP_3, ↓getK_some, ↓getK_put, ↓getK_new, ↓rowK_row, ↓mapK_map, ↓nthK_zero, ↓nthK_succ, ↓lget_zero, ↓lget_succ, ↓pk_move, ↓pk_pickT, ↓pk_pickF, ↓pk_not, ↓pk_neg, ↓pk_eqS, ↓pk_neqS, ↓pk_addS, ↓pk_eqI, ↓pk_neqI, ↓pk_lssI, ↓pk_leqI, ↓pk_gtrI, ↓pk_geqI, ↓pk_addI, ↓pk_subI, ↓pk_mulI, ↓pk_binB, ↓pk_nilPtr, ↓pk_nilMap, ↓pk_nilSlice, ↓pk_nilIfaceN, ↓pk_nilIface, ↓pk_build0, ↓pk_ext0, ↓pk_ext1, ↓pk_ext30, ↓pk_ext31, ↓pk_ext32, ↓pk_ext1_, ↓pk_lenStr, ↓pk_lenSl, ↓pk_fieldAddr, ↓pk_nilCheck, ↓pk_nilCheckI, ↓pk_indexAddr, ↓pk_indexAddrArr, ↓pk_mkIface, ↓pk_assertT, ↓pk_slLo, ↓pk_slHi, ↓rk_load1, ↓rk_lookupS, ↓rk_lookupI, ↓rk_lenMap, ↓wk_box, ↓wk_new, ↓wk_mkMap, ↓wk_store, ↓wk_mapSetS, ↓wk_mapSetI, isNo_bool, St.next_new, St.next_put, lputs_0, lputs_1, lputs_2, lputs_3, lputs_4, List.length_cons, List.length_nil, List.all_cons, List.all_nil, oneCell, Bool.and_true, Bool.true_and, Nat.reduceLeDiff, eq_self, List.toList_toArray, isNo_undef, isNo_tuple, ↓reduceIte, if_true, if_false, reduceCtorEq, Nat.reduceEqDiff, Nat.reduceAdd, Nat.zero_add, Nat.add_zero, Option.getD_some, Option.some.injEq, cond_true, cond_false, Value.bool.injEq, Bool.not_true, Bool.not_false, Bool.bne_true, Bool.bne_false, Option.isNone_some, Option.isNone_none, Bool.xor_false, Bool.xor_true, Bool.false_xor, Bool.true_xor, cellsOf, true_and, and_true, Bool.not_not, bne_self_eq_false, beq_self_eq_true, ↓k6, j2, decide_true]
          exact h _
    have b1' := of_decide_eq_true b1
    obtain ⟨hsl1, -⟩ := hsl (by omega)
    have j3' := j3 (by omega)
    have j3K := getK_of j3'
    subst hsl1
    have g0 : (ls.map Value.string)[0 + (j : Int).toNat * 2 + (0 : Int).toNat * 1]? = some (.string (ls[0 + (j : Int).toNat * 2 + (0 : Int).toNat * 1]'(by omega))) := by
      rw [List.getElem?_map, List.getElem?_eq_getElem]; rfl
    have g1 : (ls.map Value.string)[0 + (j : Int).toNat * 2 + (1 : Int).toNat * 1]? = some (.string (ls[0 + (j : Int).toNat * 2 + (1 : Int).toNat * 1]'(by omega))) := by
      rw [List.getElem?_map, List.getElem?_eq_getElem]; rfl
    generalize ls[0 + (j : Int).toNat * 2 + (0 : Int).toNat * 1]'(by omega) = x at g0
    generalize ls[0 + (j : Int).toNat * 2 + (1 : Int).toNat * 1]'(by omega) = y at g1
    have g0K := nthK_of g0
    have g1K := nthK_of g1
    have z1 : (0 : Int) ≤ (j : Int) := by omega
    have z2 : ((0 : Int) ≤ 0) = True := by decide
    have z3 : ((0 : Int) < ((2 : Nat) : Int)) = True := by decide
    have z4 : ((0 : Int) ≤ 1) = True := by decide
    have z5 : ((1 : Int) < ((2 : Nat) : Int)) = True := by decide
    rcases Bool.eq_false_or_eq_true (decide ((1000 : Int) < (x.size : Int))) with b2 | b2
    · simp only [↓getE_cons, ↓argE_t, ↓argE_c, ↓argE_g, ↓argsE_nil, ↓argsE_cons, ↓opE_eq, ↓listE_nil, ↓listE_some, ↓listE_none, ↓grpsE_nil, ↓grpsE_some, ↓grpsE_none, ↓getU_cons, ↓putK_nil, ↓putK_some, ↓putK_none, ↓putU_nil, ↓putU_some, ↓putU_none, ↓grpsE_grp, ↓grpJ_yes, ↓isNo_bool, ↓isNo_undef, ↓isNo_tuple, ↓grpJ_no, ↓sx_skip, ↓sx_region, ↓sx_seq, ↓sx_cond, ↓sx_block, ↓sx_loop, ↓sx_exit, ↓sx_ret, ↓condK_yes, ↓condK_no, ↓fnP_0, ↓fnP_1, ↓fnP_2, ↓fnP_3, ↓fnP_4, ↓opK_p, ↓opK_r, ↓opK_w, ↓opK_next, ↓opK_call, ↓opK_callV, ↓resP_0, ↓resP_1, ↓resP_2, ↓resP_3, ↓getK_some, ↓getK_put, ↓getK_new, ↓rowK_row, ↓mapK_map, ↓nthK_zero, ↓nthK_succ, ↓lget_zero, ↓lget_succ, ↓pk_move, ↓pk_pickT, ↓pk_pickF, ↓pk_not, ↓pk_neg, ↓pk_eqS, ↓pk_neqS, ↓pk_addS, ↓pk_eqI, ↓pk_neqI, ↓pk_lssI, ↓pk_leqI, ↓pk_gtrI, ↓pk_geqI, ↓pk_addI, ↓pk_subI, ↓pk_mulI, ↓pk_binB, ↓pk_nilPtr, ↓pk_nilMap, ↓pk_nilSlice, ↓pk_nilIfaceN, ↓pk_nilIface, ↓pk_build0, ↓pk_ext0, ↓pk_ext1, ↓pk_ext30, ↓pk_ext31, ↓pk_ext32, ↓pk_ext1_, ↓pk_lenStr, ↓pk_lenSl, ↓pk_fieldAddr, ↓pk_nilCheck, ↓pk_nilCheckI, ↓pk_indexAddr, ↓pk_indexAddrArr, ↓pk_mkIface, ↓pk_assertT, ↓pk_slLo, ↓pk_slHi, ↓rk_load1, ↓rk_lookupS, ↓rk_lookupI, ↓rk_lenMap, ↓wk_box, ↓wk_new, ↓wk_mkMap, ↓wk_store, ↓wk_mapSetS, ↓wk_mapSetI, isNo_bool, St.next_new, St.next_put, lputs_0, lputs_1, lputs_2, lputs_3, lputs_4, List.length_cons, List.length_nil, List.all_cons, List.all_nil, oneCell, Bool.and_true, Bool.true_and, Nat.reduceLeDiff, eq_self, List.toList_toArray, isNo_undef, isNo_tuple, ↓reduceIte, if_true, if_false, reduceCtorEq, Nat.reduceEqDiff, Nat.reduceAdd, Nat.zero_add, Nat.add_zero, Option.getD_some, Option.some.injEq, cond_true, cond_false, Value.bool.injEq, Bool.not_true, Bool.not_false, Bool.bne_true, Bool.bne_false, Option.isNone_some, Option.isNone_none, Bool.xor_false, Bool.xor_true, Bool.false_xor, Bool.true_xor, cellsOf, true_and, and_true, Bool.not_not, bne_self_eq_false, beq_self_eq_true, ↓k6, j2, b1, decide_true, ↓j3K, ↓g0K, z1, b1', z2, z3, b2, and_self]
      exact h _
    rcases Bool.eq_false_or_eq_true (decide ((1000 : Int) < (y.size : Int))) with b3 | b3
    · simp only [↓getE_cons, ↓argE_t, ↓argE_c, ↓argE_g, ↓argsE_nil, ↓argsE_cons, ↓opE_eq, ↓listE_nil, ↓listE_some, ↓listE_none, ↓grpsE_nil, ↓grpsE_some, ↓grpsE_none, ↓getU_cons, ↓putK_nil, ↓putK_some, ↓putK_none, ↓putU_nil, ↓putU_some, ↓putU_none, ↓grpsE_grp, ↓grpJ_yes, ↓isNo_bool, ↓isNo_undef, ↓isNo_tuple, ↓grpJ_no, ↓sx_skip, ↓sx_region, ↓sx_seq, ↓sx_cond, ↓sx_block, ↓sx_loop, ↓sx_exit, ↓sx_ret, ↓condK_yes, ↓condK_no, ↓fnP_0, ↓fnP_1, ↓fnP_2, ↓fnP_3, ↓fnP_4, ↓opK_p, ↓opK_r, ↓opK_w, ↓opK_next, ↓opK_call, ↓opK_callV, ↓resP_0, ↓resP_1, ↓resP_2, ↓resP_3, ↓getK_some, ↓getK_put, ↓getK_new, ↓rowK_row, ↓mapK_map, ↓nthK_zero, ↓nthK_succ, ↓lget_zero, ↓lget_succ, ↓pk_move, ↓pk_pickT, ↓pk_pickF, ↓pk_not, ↓pk_neg, ↓pk_eqS, ↓pk_neqS, ↓pk_addS, ↓pk_eqI, ↓pk_neqI, ↓pk_lssI, ↓pk_leqI, ↓pk_gtrI, ↓pk_geqI, ↓pk_addI, ↓pk_subI, ↓pk_mulI, ↓pk_binB, ↓pk_nilPtr, ↓pk_nilMap, ↓pk_nilSlice, ↓pk_nilIfaceN, ↓pk_nilIface, ↓pk_build0, ↓pk_ext0, ↓pk_ext1, ↓pk_ext30, ↓pk_ext31, ↓pk_ext32, ↓pk_ext1_, ↓pk_lenStr, ↓pk_lenSl, ↓pk_fieldAddr, ↓pk_nilCheck, ↓pk_nilCheckI, ↓pk_indexAddr, ↓pk_indexAddrArr, ↓pk_mkIface, ↓pk_assertT, ↓pk_slLo, ↓pk_slHi, ↓rk_load1, ↓rk_lookupS, ↓rk_lookupI, ↓rk_lenMap, ↓wk_box, ↓wk_new, ↓wk_mkMap, ↓wk_store, ↓wk_mapSetS, ↓wk_mapSetI, isNo_bool, St.next_new, St.next_put, lputs_0, lputs_1, lputs_2, lputs_3, lputs_4, List.length_cons, List.length_nil, List.all_cons, List.all_nil, oneCell, Bool.and_true, Bool.true_and, Nat.reduceLeDiff, eq_self, List.toList_toArray, isNo_undef, isNo_tuple, ↓reduceIte, if_true, if_false, reduceCtorEq, Nat.reduceEqDiff, Nat.reduceAdd, Nat.zero_add, Nat.add_zero, Option.getD_some, Option.some.injEq, cond_true, cond_false, Value.bool.injEq, Bool.not_true, Bool.not_false, Bool.bne_true, Bool.bne_false, Option.isNone_some, Option.isNone_none, Bool.xor_false, Bool.xor_true, Bool.false_xor, Bool.true_xor, cellsOf, true_and, and_true, Bool.not_not, bne_self_eq_false, beq_self_eq_true, ↓k6, j2, b1, decide_true, ↓j3K, ↓g0K, ↓g1K, z1, b1', z2, z3, z4, z5, b2, b3, and_self]
      exact h _
    simp only [↓getE_cons, ↓argE_t, ↓argE_c, ↓argE_g, ↓argsE_nil, ↓argsE_cons, ↓opE_eq, ↓listE_nil, ↓listE_some, ↓listE_none, ↓grpsE_nil, ↓grpsE_some, ↓grpsE_none, ↓getU_cons, ↓putK_nil, ↓putK_some, ↓putK_none, ↓putU_nil, ↓putU_some, ↓putU_none, ↓grpsE_grp, ↓grpJ_yes, ↓isNo_bool, ↓isNo_undef, ↓isNo_tuple, ↓grpJ_no, ↓sx_skip, ↓sx_region, ↓sx_seq, ↓sx_cond, ↓sx_block, ↓sx_loop, ↓sx_exit, ↓sx_ret, ↓condK_yes, ↓condK_no, ↓fnP_0, ↓fnP_1, ↓fnP_2, ↓fnP_3, ↓fnP_4, ↓opK_p, ↓opK_r, ↓opK_w, ↓opK_next, ↓opK_call, ↓opK_callV, ↓resP_0, ↓resP_1, ↓resP_2, ↓resP_3, ↓getK_some, ↓getK_put, ↓getK_new, ↓rowK_row, ↓mapK_map, ↓nthK_zero, ↓nthK_succ, ↓lget_zero, ↓lget_succ, ↓pk_move, ↓pk_pickT, ↓pk_pickF, ↓pk_not, ↓pk_neg, ↓pk_eqS, ↓pk_neqS, ↓pk_addS, ↓pk_eqI, ↓pk_neqI, ↓pk_lssI, ↓pk_leqI, ↓pk_gtrI, ↓pk_geqI, ↓pk_addI, ↓pk_subI, ↓pk_mulI, ↓pk_binB, ↓pk_nilPtr, ↓pk_nilMap, ↓pk_nilSlice, ↓pk_nilIfaceN, ↓pk_nilIface, ↓pk_build0, ↓pk_ext0, ↓pk_ext1, ↓pk_ext30, ↓pk_ext31, ↓pk_ext32, ↓pk_ext1_, ↓pk_lenStr, ↓pk_lenSl, ↓pk_fieldAddr, ↓pk_nilCheck, ↓pk_nilCheckI, ↓pk_indexAddr, ↓pk_indexAddrArr, ↓pk_mkIface, ↓pk_assertT, ↓pk_slLo, ↓pk_slHi, ↓rk_load1, ↓rk_lookupS, ↓rk_lookupI, ↓rk_lenMap, ↓wk_box, ↓wk_new, ↓wk_mkMap, ↓wk_store, ↓wk_mapSetS, ↓wk_mapSetI, isNo_bool, St.next_new, St.next_put, lputs_0, lputs_1, lputs_2, lputs_3, lputs_4, List.length_cons, List.length_nil, List.all_cons, List.all_nil, oneCell, Bool.and_true, Bool.true_and, Nat.reduceLeDiff, eq_self, List.toList_toArray, isNo_undef, isNo_tuple, ↓reduceIte, if_true, if_false, reduceCtorEq, Nat.reduceEqDiff, Nat.reduceAdd, Nat.zero_add, Nat.add_zero, Option.getD_some, Option.some.injEq, cond_true, cond_false, Value.bool.injEq, Bool.not_true, Bool.not_false, Bool.bne_true, Bool.bne_false, Option.isNone_some, Option.isNone_none, Bool.xor_false, Bool.xor_true, Bool.false_xor, Bool.true_xor, cellsOf, true_and, and_true, Bool.not_not, bne_self_eq_false, beq_self_eq_true, ↓k6, j2, b1, decide_true, ↓j3K, ↓g0K, ↓g1K, z1, b1', z2, z3, z4, z5, b2, b3, and_self]
    have hw : wrapF .i64 ((j : Int) + 1) = ((j + 1 : Nat) : Int) := by
      have := of_decide_eq_false a1
      rw [wrap64 (by omega) (by omega)]
      omega
    have fin : ((len : Int) - wrapF .i64 ((j : Int) + 1)).toNat < ((len : Int) - (j : Int)).toNat := by rw [hw]; omega
    have x1 := of_decide_eq_false b2
    have y1 := of_decide_eq_false b3
    refine k8 (n + 3) st.next (st.next + 1) (st.next + 3) _ _ _ x y es c st' _ j2 j4 j5 j6 (by omega) (by omega) (fun e => ?_) (fun es' c' hes' => ?_)
    · refine ⟨_, rfl, ⟨j + 1, es, c, by rw [hw], by omega, j2, fun _ => j3', j4, j5, j6⟩, fin⟩
    · have u0 : ¬ st.next + 3 = 0 := by omega
      have u1 : ¬ st.next + 3 = q := by omega
      have u2 : ¬ st.next + 3 = st.next := by omega
      refine ⟨_, rfl, ⟨j + 1, es', c', by rw [hw], by omega, ?_, fun _ => ?_, ?_, ?_, hes'⟩, fin⟩
      · exact (hasMax_of (s := st') (by rw [St.get_put, if_neg u0])).trans j2
      · rw [St.get_put, if_neg u1]; exact j3'
      · rw [St.get_put, if_neg u2]; exact j4
      · rw [St.get_put, if_pos rfl]
end Go.Proofs.YtocofoiijfofaaaDoor
