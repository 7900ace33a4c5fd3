/-
  New and ready: where the maps lie.
-/
import Derived.Test.YtocofoiijfofaaaGreatDoorZHelp
set_option linter.unusedSimpArgs false
set_option linter.unusedVariables false
set_option maxRecDepth 10000
namespace Go.Proofs.YtocofoiijfofaaaGreatDoor
open Go.Am
attribute [local irreducible] callO

theorem k17n (n : Nat) (p f : Nat) (l : List Value) (st : St) (K : Value → St → Prop) (hp : st.get p = some (.row (.map (some f) :: l) 0 false)) : callK (callO T0 orc fns 100000 (n + 1)) 28 [.pointer (some ⟨p, 0, none⟩)] st K = K (.tuple #[]) st := by
  refine callK_iff (fun K h => ?_) K
  refine fn_runs (fn := g28) ?_ ?_ ?_
  · rfl
  · rfl
  unfold g28
  have hpK := getK_of hp
  simp only [↓getE_cons, ↓argE_t, ↓argE_c, ↓argE_g, ↓argsE_nil, ↓argsE_cons, ↓opE_eq, ↓listE_nil, ↓listE_some, ↓listE_none, ↓grpsE_nil, ↓grpsE_some, ↓grpsE_none, ↓getU_cons, ↓putK_nil, ↓putK_some, ↓putK_none, ↓putU_nil, ↓putU_some, ↓putU_none, ↓grpsE_grp, ↓grpJ_yes, ↓isNo_bool, ↓isNo_undef, ↓isNo_tuple, ↓grpJ_no, ↓sx_skip, ↓sx_region, ↓sx_seq, ↓sx_cond, ↓sx_block, ↓sx_loop, ↓sx_exit, ↓sx_ret, ↓condK_yes, ↓condK_no, ↓fnP_0, ↓fnP_1, ↓fnP_2, ↓fnP_3, ↓fnP_4, ↓opK_p, ↓opK_r, ↓opK_w, ↓opK_next, ↓opK_call, ↓opK_callV, ↓defsV_tuple, ↓defsK_func, ↓defsK_end, ↓endK_get, ↓fnD_1, ↓fnD_2, ↓fnD_3, ↓resP_0, ↓resP_1, ↓resP_2, ↓resP_3, ↓getK_some, ↓getK_put, ↓getK_new, ↓rowK_row, ↓mapK_map, ↓nthK_zero, ↓nthK_succ, ↓lget_zero, ↓lget_succ, ↓pk_push, ↓pk_move, ↓pk_pickT, ↓pk_pickF, ↓pk_not, ↓pk_neg, ↓pk_eqS, ↓pk_neqS, ↓pk_addS, ↓pk_eqI, ↓pk_neqI, ↓pk_lssI, ↓pk_leqI, ↓pk_gtrI, ↓pk_geqI, ↓pk_addI, ↓pk_subI, ↓pk_mulI, ↓pk_binB, ↓pk_nilPtr, ↓pk_nilMap, ↓pk_nilSlice, ↓pk_nilIfaceN, ↓pk_nilIface, ↓pk_build0, ↓pk_ext0, ↓pk_ext1, ↓pk_ext30, ↓pk_ext31, ↓pk_ext32, ↓pk_ext1_, ↓pk_lenStr, ↓pk_lenSl, ↓pk_fieldAddr, ↓pk_nilCheck, ↓pk_nilCheckI, ↓pk_indexAddr, ↓pk_indexAddrArr, ↓pk_mkIface, ↓pk_assertT, ↓pk_slLo, ↓pk_slHi, ↓rk_load1, ↓rk_lookupS, ↓rk_lookupI, ↓rk_lenMap, ↓wk_box, ↓wk_new, ↓wk_mkMap, ↓wk_store, ↓wk_mapSetS, ↓wk_mapSetI, ↓pk_field, ↓pk_mkFunc, ↓wk_boxA, ↓wk_strToBytes, isNo_bool, St.next_new, St.next_put, lputs_0, lputs_1, lputs_2, lputs_3, lputs_4, List.length_cons, List.length_nil, List.all_cons, List.all_nil, oneCell, Bool.and_true, Bool.true_and, Nat.reduceLeDiff, eq_self, List.toList_toArray, isNo_undef, isNo_tuple, ↓reduceIte, if_true, if_false, reduceCtorEq, Nat.reduceEqDiff, Nat.reduceAdd, Nat.zero_add, Nat.add_zero, Option.getD_some, Option.some.injEq, cond_true, cond_false, Value.bool.injEq, Bool.not_true, Bool.not_false, Bool.bne_true, Bool.bne_false, Option.isNone_some, Option.isNone_none, Bool.xor_false, Bool.xor_true, Bool.false_xor, Bool.true_xor, cellsOf, true_and, and_true, Bool.not_not, bne_self_eq_false, beq_self_eq_true, cgT_eq, ↓hpK]
  exact h

theorem k17z (n : Nat) (p : Nat) (a b c d : Value) (st : St) (K : Value → St → Prop) (hlt : p < st.next) (hp : st.get p = some (.row [.map none, a, b, c, d] 0 false))
    (h : ∀ st', st'.next = st.next + 4 → (∀ i, i < st.next → i ≠ p → st'.get i = st.get i) → st'.get p = some (.row [.map (some st.next), .map (some (st.next + 1)), .map (some (st.next + 2)), .map (some (st.next + 3)), d] 0 false) →
      (∀ i, i < 4 → st'.get (st.next + i) = some (.map [] 0)) → K (.tuple #[]) st') : callK (callO T0 orc fns 100000 (n + 1)) 28 [.pointer (some ⟨p, 0, none⟩)] st K := by
  refine fn_runs (fn := g28) ?_ ?_ ?_
  · rfl
  · rfl
  unfold g28
  have hpK := getK_of hp
  have e0 : (st.next = p) = False := by simp; omega
  have e1 : (st.next + 1 = p) = False := by simp; omega
  have e2 : (st.next + 1 + 1 = p) = False := by simp; omega
  have e3 : (st.next + 1 + 1 + 1 = p) = False := by simp; omega
  simp only [↓getE_cons, ↓argE_t, ↓argE_c, ↓argE_g, ↓argsE_nil, ↓argsE_cons, ↓opE_eq, ↓listE_nil, ↓listE_some, ↓listE_none, ↓grpsE_nil, ↓grpsE_some, ↓grpsE_none, ↓getU_cons, ↓putK_nil, ↓putK_some, ↓putK_none, ↓putU_nil, ↓putU_some, ↓putU_none, ↓grpsE_grp, ↓grpJ_yes, ↓isNo_bool, ↓isNo_undef, ↓isNo_tuple, ↓grpJ_no, ↓sx_skip, ↓sx_region, ↓sx_seq, ↓sx_cond, ↓sx_block, ↓sx_loop, ↓sx_exit, ↓sx_ret, ↓condK_yes, ↓condK_no, ↓fnP_0, ↓fnP_1, ↓fnP_2, ↓fnP_3, ↓fnP_4, ↓opK_p, ↓opK_r, ↓opK_w, ↓opK_next, ↓opK_call, ↓opK_callV, ↓defsV_tuple, ↓defsK_func, ↓defsK_end, ↓endK_get, ↓fnD_1, ↓fnD_2, ↓fnD_3, ↓resP_0, ↓resP_1, ↓resP_2, ↓resP_3, ↓getK_some, ↓getK_put, ↓getK_new, ↓rowK_row, ↓mapK_map, ↓nthK_zero, ↓nthK_succ, ↓lget_zero, ↓lget_succ, ↓pk_push, ↓pk_move, ↓pk_pickT, ↓pk_pickF, ↓pk_not, ↓pk_neg, ↓pk_eqS, ↓pk_neqS, ↓pk_addS, ↓pk_eqI, ↓pk_neqI, ↓pk_lssI, ↓pk_leqI, ↓pk_gtrI, ↓pk_geqI, ↓pk_addI, ↓pk_subI, ↓pk_mulI, ↓pk_binB, ↓pk_nilPtr, ↓pk_nilMap, ↓pk_nilSlice, ↓pk_nilIfaceN, ↓pk_nilIface, ↓pk_build0, ↓pk_ext0, ↓pk_ext1, ↓pk_ext30, ↓pk_ext31, ↓pk_ext32, ↓pk_ext1_, ↓pk_lenStr, ↓pk_lenSl, ↓pk_fieldAddr, ↓pk_nilCheck, ↓pk_nilCheckI, ↓pk_indexAddr, ↓pk_indexAddrArr, ↓pk_mkIface, ↓pk_assertT, ↓pk_slLo, ↓pk_slHi, ↓rk_load1, ↓rk_lookupS, ↓rk_lookupI, ↓rk_lenMap, ↓wk_box, ↓wk_new, ↓wk_mkMap, ↓wk_store, ↓wk_mapSetS, ↓wk_mapSetI, ↓pk_field, ↓pk_mkFunc, ↓wk_boxA, ↓wk_strToBytes, isNo_bool, St.next_new, St.next_put, lputs_0, lputs_1, lputs_2, lputs_3, lputs_4, List.length_cons, List.length_nil, List.all_cons, List.all_nil, oneCell, Bool.and_true, Bool.true_and, Nat.reduceLeDiff, eq_self, List.toList_toArray, isNo_undef, isNo_tuple, ↓reduceIte, if_true, if_false, reduceCtorEq, Nat.reduceEqDiff, Nat.reduceAdd, Nat.zero_add, Nat.add_zero, Option.getD_some, Option.some.injEq, cond_true, cond_false, Value.bool.injEq, Bool.not_true, Bool.not_false, Bool.bne_true, Bool.bne_false, Option.isNone_some, Option.isNone_none, Bool.xor_false, Bool.xor_true, Bool.false_xor, Bool.true_xor, cellsOf, true_and, and_true, Bool.not_not, bne_self_eq_false, beq_self_eq_true, cgT_eq, ↓hpK, e0, e1, e2, e3]
  refine h _ (by simp only [St.next_put, St.next_new]) (fun i hi hne => ?_) ?_ (fun i hi => ?_)
  · have n0 : ¬ p = i := fun e => hne e.symm
    have n1 : ¬ st.next = i := by omega
    have n2 : ¬ st.next + 1 = i := by omega
    have n3 : ¬ st.next + 1 + 1 = i := by omega
    have n4 : ¬ st.next + 1 + 1 + 1 = i := by omega
    simp only [St.get_put, St.get_new, St.next_new, n0, n1, n2, n3, n4, if_false]
  · simp only [St.get_put, if_true]
  · have n0 : ¬ p = st.next + i := by omega
    have m0 : ¬ p = st.next := by omega
    match i, hi with
    | 0, _ => simp only [St.get_put, St.get_new, St.next_new, m0, if_false, Nat.add_zero] <;> simp
    | 1, _ => simp only [St.get_put, St.get_new, St.next_new, n0, if_false] <;> simp
    | 2, _ => simp only [St.get_put, St.get_new, St.next_new, n0, if_false] <;> simp
    | 3, _ => simp only [St.get_put, St.get_new, St.next_new, n0, if_false] <;> simp

theorem k7 (n : Nat) (st : St) (K : Value → St → Prop)
    (h : ∀ st', st'.next = st.next + 5 → (∀ i, i < st.next → st'.get i = st.get i) → st'.get st.next = some (.row [.map (some (st.next + 1)), .map (some (st.next + 2)), .map (some (st.next + 3)), .map (some (st.next + 4)), .int .i64 0] 0 false) →
      (∀ i, i < 4 → st'.get (st.next + 1 + i) = some (.map [] 0)) → K (.pointer (some ⟨st.next, 0, none⟩)) st') : callK (callO T0 orc fns 100000 (n + 2)) 7 [] st K := by
  refine fn_runs (fn := g7) ?_ ?_ ?_
  · rfl
  · rfl
  unfold g7
  simp only [↓getE_cons, ↓argE_t, ↓argE_c, ↓argE_g, ↓argsE_nil, ↓argsE_cons, ↓opE_eq, ↓listE_nil, ↓listE_some, ↓listE_none, ↓grpsE_nil, ↓grpsE_some, ↓grpsE_none, ↓getU_cons, ↓putK_nil, ↓putK_some, ↓putK_none, ↓putU_nil, ↓putU_some, ↓putU_none, ↓grpsE_grp, ↓grpJ_yes, ↓isNo_bool, ↓isNo_undef, ↓isNo_tuple, ↓grpJ_no, ↓sx_skip, ↓sx_region, ↓sx_seq, ↓sx_cond, ↓sx_block, ↓sx_loop, ↓sx_exit, ↓sx_ret, ↓condK_yes, ↓condK_no, ↓fnP_0, ↓fnP_1, ↓fnP_2, ↓fnP_3, ↓fnP_4, ↓opK_p, ↓opK_r, ↓opK_w, ↓opK_next, ↓opK_call, ↓opK_callV, ↓defsV_tuple, ↓defsK_func, ↓defsK_end, ↓endK_get, ↓fnD_1, ↓fnD_2, ↓fnD_3, ↓resP_0, ↓resP_1, ↓resP_2, ↓resP_3, ↓getK_some, ↓getK_put, ↓getK_new, ↓rowK_row, ↓mapK_map, ↓nthK_zero, ↓nthK_succ, ↓lget_zero, ↓lget_succ, ↓pk_push, ↓pk_move, ↓pk_pickT, ↓pk_pickF, ↓pk_not, ↓pk_neg, ↓pk_eqS, ↓pk_neqS, ↓pk_addS, ↓pk_eqI, ↓pk_neqI, ↓pk_lssI, ↓pk_leqI, ↓pk_gtrI, ↓pk_geqI, ↓pk_addI, ↓pk_subI, ↓pk_mulI, ↓pk_binB, ↓pk_nilPtr, ↓pk_nilMap, ↓pk_nilSlice, ↓pk_nilIfaceN, ↓pk_nilIface, ↓pk_build0, ↓pk_ext0, ↓pk_ext1, ↓pk_ext30, ↓pk_ext31, ↓pk_ext32, ↓pk_ext1_, ↓pk_lenStr, ↓pk_lenSl, ↓pk_fieldAddr, ↓pk_nilCheck, ↓pk_nilCheckI, ↓pk_indexAddr, ↓pk_indexAddrArr, ↓pk_mkIface, ↓pk_assertT, ↓pk_slLo, ↓pk_slHi, ↓rk_load1, ↓rk_lookupS, ↓rk_lookupI, ↓rk_lenMap, ↓wk_box, ↓wk_new, ↓wk_mkMap, ↓wk_store, ↓wk_mapSetS, ↓wk_mapSetI, ↓pk_field, ↓pk_mkFunc, ↓wk_boxA, ↓wk_strToBytes, isNo_bool, St.next_new, St.next_put, lputs_0, lputs_1, lputs_2, lputs_3, lputs_4, List.length_cons, List.length_nil, List.all_cons, List.all_nil, oneCell, Bool.and_true, Bool.true_and, Nat.reduceLeDiff, eq_self, List.toList_toArray, isNo_undef, isNo_tuple, ↓reduceIte, if_true, if_false, reduceCtorEq, Nat.reduceEqDiff, Nat.reduceAdd, Nat.zero_add, Nat.add_zero, Option.getD_some, Option.some.injEq, cond_true, cond_false, Value.bool.injEq, Bool.not_true, Bool.not_false, Bool.bne_true, Bool.bne_false, Option.isNone_some, Option.isNone_none, Bool.xor_false, Bool.xor_true, Bool.false_xor, Bool.true_xor, cellsOf, true_and, and_true, Bool.not_not, bne_self_eq_false, beq_self_eq_true, cgT_eq]
  refine k17z n st.next (.map none) (.map none) (.map none) (.int .i64 0) _ _ (by simp) (by simp only [St.get_new, if_true]) fun st' h1 h2 h3 h4 => ?_
  simp only [St.next_new] at h1 h2 h3 h4
  refine h st' (by omega) (fun i hi => ?_) h3 h4
  rw [h2 i (by omega) (by omega), St.get_new, if_neg (by omega)]
end Go.Proofs.YtocofoiijfofaaaGreatDoor
