/-
  Rows of bytes: Clone, put, take, EqBytes.
-/
import Derived.Test.YtocofoiijfofaaaDoorDResolve
set_option linter.unusedSimpArgs false
set_option linter.unusedVariables false
set_option maxRecDepth 10000
namespace Go.Proofs.YtocofoiijfofaaaDoor
open Go.Am
attribute [local irreducible] callO wopK ropK popK opK grpsE listE sx Runs

theorem kClone (n : Nat) {v : Value} {l : List UInt8} {st : St} {K : Value → St → Prop} (hv : Bys st v l) (hvn : ow v ≤ st.next) (hl : l.length ≤ 1099511627776)
    (h : ∀ v' st', Gro st' v' l → (ow v' = 0 ∨ (st.next + 1 ≤ ow v' ∧ ow v' ≤ st'.next)) → st.next ≤ st'.next → (∀ i, i < st.next → st'.get i = st.get i) → K v' st') :
    callK (callO T0 orc fns 100000 (n + 1)) 42 [v] st K := by
  refine fn_runs (fn := g42) ?_ ?_ ?_
  · rfl
  · rfl
  unfold g42
  have hn := nil_bys hv
  simp (disch := omega) only [↓getE_cons, ↓argE_t, ↓argE_c, ↓argE_g, ↓argsE_nil, ↓argsE_cons, ↓opE_eq, ↓listE_nil, ↓listE_some, ↓listE_none, ↓grpsE_nil, ↓grpsE_some, ↓grpsE_none, ↓getU_cons, ↓putK_nil, ↓putK_some, ↓putK_none, ↓putU_nil, ↓putU_some, ↓putU_none, ↓grpsE_grp, ↓sx_skip, ↓sx_region, ↓sx_seq, ↓sx_cond, ↓sx_block, ↓sx_loop, ↓sx_exit, ↓sx_ret, ↓fnP_0, ↓fnP_1, ↓fnP_2, ↓fnP_3, ↓fnP_4, ↓opK_p, ↓opK_r, ↓opK_w, ↓opK_next, ↓opK_call, ↓opK_callV, ↓resP_0, ↓resP_1, ↓resP_2, ↓resP_3, ↓rowK_row, ↓mapK_map, ↓nthK_zero, ↓nthK_succ, ↓lget_zero, ↓lget_succ, ↓grpJ_tt, ↓grpJ_ff, ↓grpJ_tf, ↓grpJ_ft, ↓grpJ_un, ↓condK_t, ↓condK_f, ↓pt_pick, ↓pf_pick, ↓pt_not, ↓pf_not, ↓qt_eqI, ↓qf_eqI, ↓qt_neqI, ↓qf_neqI, ↓qt_lssI, ↓qf_lssI, ↓qt_leqI, ↓qf_leqI, ↓qt_gtrI, ↓qf_gtrI, ↓qt_geqI, ↓qf_geqI, ↓q_addI, ↓q_subI, ↓q_rem, ↓q_min, ↓q_max, ↓pk_move, ↓pk_neg, ↓pk_addS, ↓pk_mulI, ↓pk_binB, ↓pk_nilPtr, ↓pk_nilMap, ↓pk_nilSlice, ↓pk_nilIfaceN, ↓pk_nilIface, ↓pk_build0, ↓pk_ext0, ↓pk_ext1, ↓pk_ext30, ↓pk_ext31, ↓pk_ext32, ↓pk_lenStr, ↓pk_lenSl, ↓pk_fieldAddr, ↓pk_nilCheck, ↓pk_nilCheckI, ↓pk_indexAddr, ↓pk_indexAddrArr, ↓pk_mkIface, ↓pk_assertT, ↓pk_slLo, ↓pk_slHi, ↓rk_load1, ↓rk_lookupS, ↓rk_lookupI, ↓rk_lenMap, ↓wk_box, ↓wk_new, ↓wk_mkMap, ↓wk_store, ↓wk_mapSetS, ↓wk_mapSetI, ↓pk_field, ↓pk_mkFunc, ↓wk_boxA, ↓wk_strToBytes, ↓wk_delS, ↓wk_delI, ↓pk_build, ↓wk_sliceLit0, ↓pj_eqS, ↓pj_neqS, ↓pj_eqI, ↓pj_neqI, ↓pj_lssI, ↓pj_leqI, ↓pj_gtrI, ↓pj_geqI, getK_some, get_put_same, get_put_ne, get_new_same, get_new_ne, lputs_5, lputs_6, lputs_z, lputs_s, fillK_nil, fillK_cons, List.drop_succ_cons, List.drop_zero, List.drop_nil, List.cons_append, List.nil_append, St.next_new, St.next_put, lputs_0, lputs_1, lputs_2, lputs_3, lputs_4, List.length_cons, List.length_nil, List.all_cons, List.all_nil, Bool.and_true, Bool.true_and, Nat.reduceLeDiff, eq_self, List.toList_toArray, ↓reduceIte, if_true, if_false, reduceCtorEq, Nat.reduceEqDiff, Nat.reduceAdd, Nat.zero_add, Nat.add_zero, Option.getD_some, Option.some.injEq, cond_true, cond_false, Value.bool.injEq, Bool.not_true, Bool.not_false, Bool.bne_true, Bool.bne_false, Option.isNone_some, Option.isNone_none, Bool.xor_false, Bool.xor_true, Bool.false_xor, Bool.true_xor, true_and, and_true, Bool.not_not, bne_self_eq_false, beq_self_eq_true, cgT_eq, cells_agg, cells_int, cells_str, cells_bool, cells_slice, cells_ptr, cells_map, cells_iface, cells_nif, one_int, one_str, one_bool, one_slice, one_ptr, one_map, one_iface, one_nif, Int.reduceLT, Int.reduceLE, Int.reduceEq, Nat.reduceLT, Int.reduceToNat, Int.reduceAdd, Int.reduceSub, cast_zero, cast_one, ↓hn]
  refine iteI (fun h0 => ?_) (fun h0 => ?_)
  · obtain ⟨rfl, rfl⟩ := hv.ow0 h0
    exact h _ st (Gro.nil st) (.inl rfl) (Nat.le_refl _) (fun _ _ => rfl)
  · have hg : Gro (st.new (.row [] 0 false)) (.slice (some ⟨st.next, 0, none⟩) 0 0) [] := .inr (.inr ⟨st.next, 0, [], false, rfl, rfl, get_new_same _ _, Nat.le_refl _⟩)
    have e0 : ow (.slice (some ⟨st.next, 0, none⟩) 0 0) = st.next + 1 := rfl
    have hN : (st.new (.row [] 0 false)).next = st.next + 1 := rfl
    have hb : Bys (st.new (.row [] 0 false)) v l := hv.keep fun i hi => get_new_ne _ _ _ (by omega)
    refine append_go hg hb (by simpa using hl) fun v' st' k1 k2 k3 k4 => ?_
    simp (disch := omega) only [↓getE_cons, ↓argE_t, ↓argE_c, ↓argE_g, ↓argsE_nil, ↓argsE_cons, ↓opE_eq, ↓listE_nil, ↓listE_some, ↓listE_none, ↓grpsE_nil, ↓grpsE_some, ↓grpsE_none, ↓getU_cons, ↓putK_nil, ↓putK_some, ↓putK_none, ↓putU_nil, ↓putU_some, ↓putU_none, ↓grpsE_grp, ↓sx_skip, ↓sx_region, ↓sx_seq, ↓sx_cond, ↓sx_block, ↓sx_loop, ↓sx_exit, ↓sx_ret, ↓fnP_0, ↓fnP_1, ↓fnP_2, ↓fnP_3, ↓fnP_4, ↓opK_p, ↓opK_r, ↓opK_w, ↓opK_next, ↓opK_call, ↓opK_callV, ↓resP_0, ↓resP_1, ↓resP_2, ↓resP_3, ↓rowK_row, ↓mapK_map, ↓nthK_zero, ↓nthK_succ, ↓lget_zero, ↓lget_succ, ↓grpJ_tt, ↓grpJ_ff, ↓grpJ_tf, ↓grpJ_ft, ↓grpJ_un, ↓condK_t, ↓condK_f, ↓pt_pick, ↓pf_pick, ↓pt_not, ↓pf_not, ↓qt_eqI, ↓qf_eqI, ↓qt_neqI, ↓qf_neqI, ↓qt_lssI, ↓qf_lssI, ↓qt_leqI, ↓qf_leqI, ↓qt_gtrI, ↓qf_gtrI, ↓qt_geqI, ↓qf_geqI, ↓q_addI, ↓q_subI, ↓q_rem, ↓q_min, ↓q_max, ↓pk_move, ↓pk_neg, ↓pk_addS, ↓pk_mulI, ↓pk_binB, ↓pk_nilPtr, ↓pk_nilMap, ↓pk_nilSlice, ↓pk_nilIfaceN, ↓pk_nilIface, ↓pk_build0, ↓pk_ext0, ↓pk_ext1, ↓pk_ext30, ↓pk_ext31, ↓pk_ext32, ↓pk_lenStr, ↓pk_lenSl, ↓pk_fieldAddr, ↓pk_nilCheck, ↓pk_nilCheckI, ↓pk_indexAddr, ↓pk_indexAddrArr, ↓pk_mkIface, ↓pk_assertT, ↓pk_slLo, ↓pk_slHi, ↓rk_load1, ↓rk_lookupS, ↓rk_lookupI, ↓rk_lenMap, ↓wk_box, ↓wk_new, ↓wk_mkMap, ↓wk_store, ↓wk_mapSetS, ↓wk_mapSetI, ↓pk_field, ↓pk_mkFunc, ↓wk_boxA, ↓wk_strToBytes, ↓wk_delS, ↓wk_delI, ↓pk_build, ↓wk_sliceLit0, ↓pj_eqS, ↓pj_neqS, ↓pj_eqI, ↓pj_neqI, ↓pj_lssI, ↓pj_leqI, ↓pj_gtrI, ↓pj_geqI, getK_some, get_put_same, get_put_ne, get_new_same, get_new_ne, lputs_5, lputs_6, lputs_z, lputs_s, fillK_nil, fillK_cons, List.drop_succ_cons, List.drop_zero, List.drop_nil, List.cons_append, List.nil_append, St.next_new, St.next_put, lputs_0, lputs_1, lputs_2, lputs_3, lputs_4, List.length_cons, List.length_nil, List.all_cons, List.all_nil, Bool.and_true, Bool.true_and, Nat.reduceLeDiff, eq_self, List.toList_toArray, ↓reduceIte, if_true, if_false, reduceCtorEq, Nat.reduceEqDiff, Nat.reduceAdd, Nat.zero_add, Nat.add_zero, Option.getD_some, Option.some.injEq, cond_true, cond_false, Value.bool.injEq, Bool.not_true, Bool.not_false, Bool.bne_true, Bool.bne_false, Option.isNone_some, Option.isNone_none, Bool.xor_false, Bool.xor_true, Bool.false_xor, Bool.true_xor, true_and, and_true, Bool.not_not, bne_self_eq_false, beq_self_eq_true, cgT_eq, cells_agg, cells_int, cells_str, cells_bool, cells_slice, cells_ptr, cells_map, cells_iface, cells_nif, one_int, one_str, one_bool, one_slice, one_ptr, one_map, one_iface, one_nif, Int.reduceLT, Int.reduceLE, Int.reduceEq, Nat.reduceLT, Int.reduceToNat, Int.reduceAdd, Int.reduceSub, cast_zero, cast_one]
    refine h v' st' (by simpa using k1) (.inr ?_) (by omega) (fun i hi => ?_)
    · omega
    · rw [k4 i (by omega) (by omega), get_new_ne _ _ _ (by omega)]

/-- put: as many as there is room for -/
theorem kPut (n : Nat) {w o : Nat} {cs : List Value} {v u : Value} {l m : List UInt8} {most : Nat} {st : St} {K : Value → St → Prop} (hw : st.get w = some (.row cs 0 false)) (ho : cs[o]? = some v) (ho1 : cs[o + 1]? = some (.int .i64 most))
    (hv : Gro st v l) (hu : Bys st u m) (hm : most ≤ 1000000) (hl : l.length ≤ most) (hmm : m.length ≤ 9000000000000000000) (hwn : w < st.next) (hvn : ow v ≤ st.next) (hvw : ow v ≠ w + 1)
    (h : ∀ v' st', Gro st' v' (l ++ m.take (most - l.length)) → (ow v' = ow v ∨ (st.next + 1 ≤ ow v' ∧ ow v' ≤ st'.next)) → st.next ≤ st'.next → (∀ i, i + 1 ≠ ow v → i ≠ w → i < st.next → st'.get i = st.get i) → st'.get w = some (.row (lputs cs o [v']) 0 false) →
      K (.int .i64 (min m.length (most - l.length) : Nat)) st') :
    callK (callO T0 orc fns 100000 (n + 1)) 27 [.pointer (some ⟨w, o, none⟩), u] st K := by
  refine fn_runs (fn := g27) ?_ ?_ ?_
  · rfl
  · rfl
  unfold g27
  have hn := len_bys hu
  have hn2 := len_bys hv.bys
  have c0 := nthK_at ho
  have c1 := nthK_at ho1
  have hmin : (if (most : Int) - l.length < m.length then (most : Int) - l.length else (m.length : Int)) = ((min m.length (most - l.length) : Nat) : Int) := by
    split <;> omega
  have hle : min m.length (most - l.length) ≤ m.length := Nat.min_le_left _ _
  have hs := slhi_bys hu
  simp (disch := omega) only [↓getE_cons, ↓argE_t, ↓argE_c, ↓argE_g, ↓argsE_nil, ↓argsE_cons, ↓opE_eq, ↓listE_nil, ↓listE_some, ↓listE_none, ↓grpsE_nil, ↓grpsE_some, ↓grpsE_none, ↓getU_cons, ↓putK_nil, ↓putK_some, ↓putK_none, ↓putU_nil, ↓putU_some, ↓putU_none, ↓grpsE_grp, ↓sx_skip, ↓sx_region, ↓sx_seq, ↓sx_cond, ↓sx_block, ↓sx_loop, ↓sx_exit, ↓sx_ret, ↓fnP_0, ↓fnP_1, ↓fnP_2, ↓fnP_3, ↓fnP_4, ↓opK_p, ↓opK_r, ↓opK_w, ↓opK_next, ↓opK_call, ↓opK_callV, ↓resP_0, ↓resP_1, ↓resP_2, ↓resP_3, ↓rowK_row, ↓mapK_map, ↓nthK_zero, ↓nthK_succ, ↓lget_zero, ↓lget_succ, ↓grpJ_tt, ↓grpJ_ff, ↓grpJ_tf, ↓grpJ_ft, ↓grpJ_un, ↓condK_t, ↓condK_f, ↓pt_pick, ↓pf_pick, ↓pt_not, ↓pf_not, ↓qt_eqI, ↓qf_eqI, ↓qt_neqI, ↓qf_neqI, ↓qt_lssI, ↓qf_lssI, ↓qt_leqI, ↓qf_leqI, ↓qt_gtrI, ↓qf_gtrI, ↓qt_geqI, ↓qf_geqI, ↓q_addI, ↓q_subI, ↓q_rem, ↓q_min, ↓q_max, ↓pk_move, ↓pk_neg, ↓pk_addS, ↓pk_mulI, ↓pk_binB, ↓pk_nilPtr, ↓pk_nilMap, ↓pk_nilSlice, ↓pk_nilIfaceN, ↓pk_nilIface, ↓pk_build0, ↓pk_ext0, ↓pk_ext1, ↓pk_ext30, ↓pk_ext31, ↓pk_ext32, ↓pk_lenStr, ↓pk_lenSl, ↓pk_fieldAddr, ↓pk_nilCheck, ↓pk_nilCheckI, ↓pk_indexAddr, ↓pk_indexAddrArr, ↓pk_mkIface, ↓pk_assertT, ↓pk_slLo, ↓pk_slHi, ↓rk_load1, ↓rk_lookupS, ↓rk_lookupI, ↓rk_lenMap, ↓wk_box, ↓wk_new, ↓wk_mkMap, ↓wk_store, ↓wk_mapSetS, ↓wk_mapSetI, ↓pk_field, ↓pk_mkFunc, ↓wk_boxA, ↓wk_strToBytes, ↓wk_delS, ↓wk_delI, ↓pk_build, ↓wk_sliceLit0, ↓pj_eqS, ↓pj_neqS, ↓pj_eqI, ↓pj_neqI, ↓pj_lssI, ↓pj_leqI, ↓pj_gtrI, ↓pj_geqI, getK_some, get_put_same, get_put_ne, get_new_same, get_new_ne, lputs_5, lputs_6, lputs_z, lputs_s, fillK_nil, fillK_cons, List.drop_succ_cons, List.drop_zero, List.drop_nil, List.cons_append, List.nil_append, St.next_new, St.next_put, lputs_0, lputs_1, lputs_2, lputs_3, lputs_4, List.length_cons, List.length_nil, List.all_cons, List.all_nil, Bool.and_true, Bool.true_and, Nat.reduceLeDiff, eq_self, List.toList_toArray, ↓reduceIte, if_true, if_false, reduceCtorEq, Nat.reduceEqDiff, Nat.reduceAdd, Nat.zero_add, Nat.add_zero, Option.getD_some, Option.some.injEq, cond_true, cond_false, Value.bool.injEq, Bool.not_true, Bool.not_false, Bool.bne_true, Bool.bne_false, Option.isNone_some, Option.isNone_none, Bool.xor_false, Bool.xor_true, Bool.false_xor, Bool.true_xor, true_and, and_true, Bool.not_not, bne_self_eq_false, beq_self_eq_true, cgT_eq, cells_agg, cells_int, cells_str, cells_bool, cells_slice, cells_ptr, cells_map, cells_iface, cells_nif, one_int, one_str, one_bool, one_slice, one_ptr, one_map, one_iface, one_nif, Int.reduceLT, Int.reduceLE, Int.reduceEq, Nat.reduceLT, Int.reduceToNat, Int.reduceAdd, Int.reduceSub, cast_zero, cast_one, ↓hn, ↓hn2, hw, ↓c0, ↓c1, hmin, ↓hs, Int.toNat_natCast]
  refine append_go hv (bhi_bys hu _ hle) (by simp only [List.length_take]; omega) fun v' st' k1 k2 k3 k4 => ?_
  have hw' : st'.get w = some (.row cs 0 false) := (k4 w (by omega) hwn).trans hw
  have hcl : o + 1 ≤ cs.length := by
    have := List.getElem?_eq_some_iff.1 ho
    obtain ⟨q, _⟩ := this
    omega
  simp (disch := omega) only [↓getE_cons, ↓argE_t, ↓argE_c, ↓argE_g, ↓argsE_nil, ↓argsE_cons, ↓opE_eq, ↓listE_nil, ↓listE_some, ↓listE_none, ↓grpsE_nil, ↓grpsE_some, ↓grpsE_none, ↓getU_cons, ↓putK_nil, ↓putK_some, ↓putK_none, ↓putU_nil, ↓putU_some, ↓putU_none, ↓grpsE_grp, ↓sx_skip, ↓sx_region, ↓sx_seq, ↓sx_cond, ↓sx_block, ↓sx_loop, ↓sx_exit, ↓sx_ret, ↓fnP_0, ↓fnP_1, ↓fnP_2, ↓fnP_3, ↓fnP_4, ↓opK_p, ↓opK_r, ↓opK_w, ↓opK_next, ↓opK_call, ↓opK_callV, ↓resP_0, ↓resP_1, ↓resP_2, ↓resP_3, ↓rowK_row, ↓mapK_map, ↓nthK_zero, ↓nthK_succ, ↓lget_zero, ↓lget_succ, ↓grpJ_tt, ↓grpJ_ff, ↓grpJ_tf, ↓grpJ_ft, ↓grpJ_un, ↓condK_t, ↓condK_f, ↓pt_pick, ↓pf_pick, ↓pt_not, ↓pf_not, ↓qt_eqI, ↓qf_eqI, ↓qt_neqI, ↓qf_neqI, ↓qt_lssI, ↓qf_lssI, ↓qt_leqI, ↓qf_leqI, ↓qt_gtrI, ↓qf_gtrI, ↓qt_geqI, ↓qf_geqI, ↓q_addI, ↓q_subI, ↓q_rem, ↓q_min, ↓q_max, ↓pk_move, ↓pk_neg, ↓pk_addS, ↓pk_mulI, ↓pk_binB, ↓pk_nilPtr, ↓pk_nilMap, ↓pk_nilSlice, ↓pk_nilIfaceN, ↓pk_nilIface, ↓pk_build0, ↓pk_ext0, ↓pk_ext1, ↓pk_ext30, ↓pk_ext31, ↓pk_ext32, ↓pk_lenStr, ↓pk_lenSl, ↓pk_fieldAddr, ↓pk_nilCheck, ↓pk_nilCheckI, ↓pk_indexAddr, ↓pk_indexAddrArr, ↓pk_mkIface, ↓pk_assertT, ↓pk_slLo, ↓pk_slHi, ↓rk_load1, ↓rk_lookupS, ↓rk_lookupI, ↓rk_lenMap, ↓wk_box, ↓wk_new, ↓wk_mkMap, ↓wk_store, ↓wk_mapSetS, ↓wk_mapSetI, ↓pk_field, ↓pk_mkFunc, ↓wk_boxA, ↓wk_strToBytes, ↓wk_delS, ↓wk_delI, ↓pk_build, ↓wk_sliceLit0, ↓pj_eqS, ↓pj_neqS, ↓pj_eqI, ↓pj_neqI, ↓pj_lssI, ↓pj_leqI, ↓pj_gtrI, ↓pj_geqI, getK_some, get_put_same, get_put_ne, get_new_same, get_new_ne, lputs_5, lputs_6, lputs_z, lputs_s, fillK_nil, fillK_cons, List.drop_succ_cons, List.drop_zero, List.drop_nil, List.cons_append, List.nil_append, St.next_new, St.next_put, lputs_0, lputs_1, lputs_2, lputs_3, lputs_4, List.length_cons, List.length_nil, List.all_cons, List.all_nil, Bool.and_true, Bool.true_and, Nat.reduceLeDiff, eq_self, List.toList_toArray, ↓reduceIte, if_true, if_false, reduceCtorEq, Nat.reduceEqDiff, Nat.reduceAdd, Nat.zero_add, Nat.add_zero, Option.getD_some, Option.some.injEq, cond_true, cond_false, Value.bool.injEq, Bool.not_true, Bool.not_false, Bool.bne_true, Bool.bne_false, Option.isNone_some, Option.isNone_none, Bool.xor_false, Bool.xor_true, Bool.false_xor, Bool.true_xor, true_and, and_true, Bool.not_not, bne_self_eq_false, beq_self_eq_true, cgT_eq, cells_agg, cells_int, cells_str, cells_bool, cells_slice, cells_ptr, cells_map, cells_iface, cells_nif, one_int, one_str, one_bool, one_slice, one_ptr, one_map, one_iface, one_nif, Int.reduceLT, Int.reduceLE, Int.reduceEq, Nat.reduceLT, Int.reduceToNat, Int.reduceAdd, Int.reduceSub, cast_zero, cast_one, hw', k1.bys.cells, k1.bys.one, hcl, hmin]
  have e : m.take (min m.length (most - l.length)) = m.take (most - l.length) := by
    rw [← List.take_take, List.take_of_length_le (by rw [List.length_take]; omega)]
  rw [e] at k1
  refine h v' _ (k1.keep fun i hi => get_put_ne _ _ _ _ ?_) ?_ k3 (fun i i1 i2 i3 => ?_) (get_put_same _ _ _)
  · omega
  · rcases k2 with k2 | k2
    · exact .inl k2
    · exact .inr ⟨by omega, by show ow v' ≤ st'.next; omega⟩
  · rw [get_put_ne _ _ _ _ (fun e => i2 e.symm), k4 i i1 i3]

/-- take: up to n from the beginning -/
theorem kTake (n : Nat) {w o : Nat} {cs : List Value} {v : Value} {l : List UInt8} {x : Int} {st : St} {K : Value → St → Prop} (hw : st.get w = some (.row cs 0 false)) (ho : cs[o]? = some v)
    (hv : Gro st v l) (hx : 0 ≤ x) (hx2 : x ≤ 1000000) (hl : l.length ≤ 1000000) (hwn : w < st.next) (hvn : ow v ≤ st.next) (hvw : ow v ≠ w + 1)
    (h : ∀ u v' st', Gro st' u (l.take x.toNat) → Gro st' v' (l.drop x.toNat) → ow v' = ow v → (ow u = 0 ∨ (st.next + 1 ≤ ow u ∧ ow u ≤ st'.next)) → st.next ≤ st'.next → (∀ i, i ≠ w → i < st.next → st'.get i = st.get i) → st'.get w = some (.row (lputs cs o [v']) 0 false) →
      K u st') :
    callK (callO T0 orc fns 100000 (n + 2)) 28 [.pointer (some ⟨w, o, none⟩), .int .i64 x] st K := by
  refine fn_runs (fn := g28) ?_ ?_ ?_
  · rfl
  · rfl
  unfold g28
  have hn2 := len_bys hv.bys
  have c0 := nthK_at ho
  have hmin : (if (l.length : Int) < x then (l.length : Int) else x) = ((min x.toNat l.length : Nat) : Int) := by
    split <;> omega
  have hle : min x.toNat l.length ≤ l.length := Nat.min_le_right _ _
  have hs := slhi_bys hv.bys
  have e1 : l.take (min x.toNat l.length) = l.take x.toNat := by
    rw [← List.take_take, List.take_of_length_le (Nat.le_refl l.length)]
  have e2 : l.drop (min x.toNat l.length) = l.drop x.toNat := by
    by_cases hh : x.toNat ≤ l.length
    · rw [Nat.min_eq_left hh]
    · rw [Nat.min_eq_right (by omega), List.drop_length, List.drop_of_length_le (by omega)]
  simp (disch := omega) only [↓getE_cons, ↓argE_t, ↓argE_c, ↓argE_g, ↓argsE_nil, ↓argsE_cons, ↓opE_eq, ↓listE_nil, ↓listE_some, ↓listE_none, ↓grpsE_nil, ↓grpsE_some, ↓grpsE_none, ↓getU_cons, ↓putK_nil, ↓putK_some, ↓putK_none, ↓putU_nil, ↓putU_some, ↓putU_none, ↓grpsE_grp, ↓sx_skip, ↓sx_region, ↓sx_seq, ↓sx_cond, ↓sx_block, ↓sx_loop, ↓sx_exit, ↓sx_ret, ↓fnP_0, ↓fnP_1, ↓fnP_2, ↓fnP_3, ↓fnP_4, ↓opK_p, ↓opK_r, ↓opK_w, ↓opK_next, ↓opK_call, ↓opK_callV, ↓resP_0, ↓resP_1, ↓resP_2, ↓resP_3, ↓rowK_row, ↓mapK_map, ↓nthK_zero, ↓nthK_succ, ↓lget_zero, ↓lget_succ, ↓grpJ_tt, ↓grpJ_ff, ↓grpJ_tf, ↓grpJ_ft, ↓grpJ_un, ↓condK_t, ↓condK_f, ↓pt_pick, ↓pf_pick, ↓pt_not, ↓pf_not, ↓qt_eqI, ↓qf_eqI, ↓qt_neqI, ↓qf_neqI, ↓qt_lssI, ↓qf_lssI, ↓qt_leqI, ↓qf_leqI, ↓qt_gtrI, ↓qf_gtrI, ↓qt_geqI, ↓qf_geqI, ↓q_addI, ↓q_subI, ↓q_rem, ↓q_min, ↓q_max, ↓pk_move, ↓pk_neg, ↓pk_addS, ↓pk_mulI, ↓pk_binB, ↓pk_nilPtr, ↓pk_nilMap, ↓pk_nilSlice, ↓pk_nilIfaceN, ↓pk_nilIface, ↓pk_build0, ↓pk_ext0, ↓pk_ext1, ↓pk_ext30, ↓pk_ext31, ↓pk_ext32, ↓pk_lenStr, ↓pk_lenSl, ↓pk_fieldAddr, ↓pk_nilCheck, ↓pk_nilCheckI, ↓pk_indexAddr, ↓pk_indexAddrArr, ↓pk_mkIface, ↓pk_assertT, ↓pk_slLo, ↓pk_slHi, ↓rk_load1, ↓rk_lookupS, ↓rk_lookupI, ↓rk_lenMap, ↓wk_box, ↓wk_new, ↓wk_mkMap, ↓wk_store, ↓wk_mapSetS, ↓wk_mapSetI, ↓pk_field, ↓pk_mkFunc, ↓wk_boxA, ↓wk_strToBytes, ↓wk_delS, ↓wk_delI, ↓pk_build, ↓wk_sliceLit0, ↓pj_eqS, ↓pj_neqS, ↓pj_eqI, ↓pj_neqI, ↓pj_lssI, ↓pj_leqI, ↓pj_gtrI, ↓pj_geqI, getK_some, get_put_same, get_put_ne, get_new_same, get_new_ne, lputs_5, lputs_6, lputs_z, lputs_s, fillK_nil, fillK_cons, List.drop_succ_cons, List.drop_zero, List.drop_nil, List.cons_append, List.nil_append, St.next_new, St.next_put, lputs_0, lputs_1, lputs_2, lputs_3, lputs_4, List.length_cons, List.length_nil, List.all_cons, List.all_nil, Bool.and_true, Bool.true_and, Nat.reduceLeDiff, eq_self, List.toList_toArray, ↓reduceIte, if_true, if_false, reduceCtorEq, Nat.reduceEqDiff, Nat.reduceAdd, Nat.zero_add, Nat.add_zero, Option.getD_some, Option.some.injEq, cond_true, cond_false, Value.bool.injEq, Bool.not_true, Bool.not_false, Bool.bne_true, Bool.bne_false, Option.isNone_some, Option.isNone_none, Bool.xor_false, Bool.xor_true, Bool.false_xor, Bool.true_xor, true_and, and_true, Bool.not_not, bne_self_eq_false, beq_self_eq_true, cgT_eq, cells_agg, cells_int, cells_str, cells_bool, cells_slice, cells_ptr, cells_map, cells_iface, cells_nif, one_int, one_str, one_bool, one_slice, one_ptr, one_map, one_iface, one_nif, Int.reduceLT, Int.reduceLE, Int.reduceEq, Nat.reduceLT, Int.reduceToNat, Int.reduceAdd, Int.reduceSub, cast_zero, cast_one, ↓hn2, hw, ↓c0, hmin, ↓hs, Int.toNat_natCast]
  refine kClone n (bhi_bys hv.bys _ hle) (by rw [ow_bhi]; exact hvn) (by simp only [List.length_take]; omega) fun u st' k1 k2 k3 k4 => ?_
  have hw' : st'.get w = some (.row cs 0 false) := (k4 w hwn).trans hw
  have hv' : Gro st' v l := hv.keep fun i hi => k4 i (by omega)
  have hs2 := sllo_bys hv'.bys
  have hcl : o + 1 ≤ cs.length := by
    have := List.getElem?_eq_some_iff.1 ho
    obtain ⟨q, _⟩ := this
    omega
  have hg := blo_gro hv' _ hle
  simp (disch := omega) only [↓getE_cons, ↓argE_t, ↓argE_c, ↓argE_g, ↓argsE_nil, ↓argsE_cons, ↓opE_eq, ↓listE_nil, ↓listE_some, ↓listE_none, ↓grpsE_nil, ↓grpsE_some, ↓grpsE_none, ↓getU_cons, ↓putK_nil, ↓putK_some, ↓putK_none, ↓putU_nil, ↓putU_some, ↓putU_none, ↓grpsE_grp, ↓sx_skip, ↓sx_region, ↓sx_seq, ↓sx_cond, ↓sx_block, ↓sx_loop, ↓sx_exit, ↓sx_ret, ↓fnP_0, ↓fnP_1, ↓fnP_2, ↓fnP_3, ↓fnP_4, ↓opK_p, ↓opK_r, ↓opK_w, ↓opK_next, ↓opK_call, ↓opK_callV, ↓resP_0, ↓resP_1, ↓resP_2, ↓resP_3, ↓rowK_row, ↓mapK_map, ↓nthK_zero, ↓nthK_succ, ↓lget_zero, ↓lget_succ, ↓grpJ_tt, ↓grpJ_ff, ↓grpJ_tf, ↓grpJ_ft, ↓grpJ_un, ↓condK_t, ↓condK_f, ↓pt_pick, ↓pf_pick, ↓pt_not, ↓pf_not, ↓qt_eqI, ↓qf_eqI, ↓qt_neqI, ↓qf_neqI, ↓qt_lssI, ↓qf_lssI, ↓qt_leqI, ↓qf_leqI, ↓qt_gtrI, ↓qf_gtrI, ↓qt_geqI, ↓qf_geqI, ↓q_addI, ↓q_subI, ↓q_rem, ↓q_min, ↓q_max, ↓pk_move, ↓pk_neg, ↓pk_addS, ↓pk_mulI, ↓pk_binB, ↓pk_nilPtr, ↓pk_nilMap, ↓pk_nilSlice, ↓pk_nilIfaceN, ↓pk_nilIface, ↓pk_build0, ↓pk_ext0, ↓pk_ext1, ↓pk_ext30, ↓pk_ext31, ↓pk_ext32, ↓pk_lenStr, ↓pk_lenSl, ↓pk_fieldAddr, ↓pk_nilCheck, ↓pk_nilCheckI, ↓pk_indexAddr, ↓pk_indexAddrArr, ↓pk_mkIface, ↓pk_assertT, ↓pk_slLo, ↓pk_slHi, ↓rk_load1, ↓rk_lookupS, ↓rk_lookupI, ↓rk_lenMap, ↓wk_box, ↓wk_new, ↓wk_mkMap, ↓wk_store, ↓wk_mapSetS, ↓wk_mapSetI, ↓pk_field, ↓pk_mkFunc, ↓wk_boxA, ↓wk_strToBytes, ↓wk_delS, ↓wk_delI, ↓pk_build, ↓wk_sliceLit0, ↓pj_eqS, ↓pj_neqS, ↓pj_eqI, ↓pj_neqI, ↓pj_lssI, ↓pj_leqI, ↓pj_gtrI, ↓pj_geqI, getK_some, get_put_same, get_put_ne, get_new_same, get_new_ne, lputs_5, lputs_6, lputs_z, lputs_s, fillK_nil, fillK_cons, List.drop_succ_cons, List.drop_zero, List.drop_nil, List.cons_append, List.nil_append, St.next_new, St.next_put, lputs_0, lputs_1, lputs_2, lputs_3, lputs_4, List.length_cons, List.length_nil, List.all_cons, List.all_nil, Bool.and_true, Bool.true_and, Nat.reduceLeDiff, eq_self, List.toList_toArray, ↓reduceIte, if_true, if_false, reduceCtorEq, Nat.reduceEqDiff, Nat.reduceAdd, Nat.zero_add, Nat.add_zero, Option.getD_some, Option.some.injEq, cond_true, cond_false, Value.bool.injEq, Bool.not_true, Bool.not_false, Bool.bne_true, Bool.bne_false, Option.isNone_some, Option.isNone_none, Bool.xor_false, Bool.xor_true, Bool.false_xor, Bool.true_xor, true_and, and_true, Bool.not_not, bne_self_eq_false, beq_self_eq_true, cgT_eq, cells_agg, cells_int, cells_str, cells_bool, cells_slice, cells_ptr, cells_map, cells_iface, cells_nif, one_int, one_str, one_bool, one_slice, one_ptr, one_map, one_iface, one_nif, Int.reduceLT, Int.reduceLE, Int.reduceEq, Nat.reduceLT, Int.reduceToNat, Int.reduceAdd, Int.reduceSub, cast_zero, cast_one, hw', ↓c0, ↓hs2, Int.toNat_natCast, hg.bys.cells, hg.bys.one, hcl, hmin]
  rw [e1] at k1
  rw [e2] at hg
  refine h u (blo v (min x.toNat l.length)) _ (k1.keep fun i hi => get_put_ne _ _ _ _ ?_) (hg.keep fun i hi => get_put_ne _ _ _ _ ?_) (ow_blo _ _) k2 k3 (fun i i2 i3 => ?_) (get_put_same _ _ _)
  · omega
  · rw [ow_blo] at hi; omega
  · rw [get_put_ne _ _ _ _ (fun e => i2 e.symm), k4 i i3]

theorem kEqBytes (n : Nat) {u v : Value} {l m : List UInt8} {st : St} {K : Value → St → Prop} (hu : Bys st u l) (hv : Bys st v m) (hl : l.length < 90000) (h : K (.bool (decide (l = m))) st) :
    callK (callO T0 orc fns 100000 (n + 1)) 14 [u, v] st K := by
  refine fn_runs (fn := g14) ?_ ?_ ?_
  · rfl
  · rfl
  unfold g14
  have hn := len_bys hu
  have hn2 := len_bys hv
  simp (disch := omega) only [↓getE_cons, ↓argE_t, ↓argE_c, ↓argE_g, ↓argsE_nil, ↓argsE_cons, ↓opE_eq, ↓listE_nil, ↓listE_some, ↓listE_none, ↓grpsE_nil, ↓grpsE_some, ↓grpsE_none, ↓getU_cons, ↓putK_nil, ↓putK_some, ↓putK_none, ↓putU_nil, ↓putU_some, ↓putU_none, ↓grpsE_grp, ↓sx_skip, ↓sx_region, ↓sx_seq, ↓sx_cond, ↓sx_block, ↓sx_loop, ↓sx_exit, ↓sx_ret, ↓fnP_0, ↓fnP_1, ↓fnP_2, ↓fnP_3, ↓fnP_4, ↓opK_p, ↓opK_r, ↓opK_w, ↓opK_next, ↓opK_call, ↓opK_callV, ↓resP_0, ↓resP_1, ↓resP_2, ↓resP_3, ↓rowK_row, ↓mapK_map, ↓nthK_zero, ↓nthK_succ, ↓lget_zero, ↓lget_succ, ↓grpJ_tt, ↓grpJ_ff, ↓grpJ_tf, ↓grpJ_ft, ↓grpJ_un, ↓condK_t, ↓condK_f, ↓pt_pick, ↓pf_pick, ↓pt_not, ↓pf_not, ↓qt_eqI, ↓qf_eqI, ↓qt_neqI, ↓qf_neqI, ↓qt_lssI, ↓qf_lssI, ↓qt_leqI, ↓qf_leqI, ↓qt_gtrI, ↓qf_gtrI, ↓qt_geqI, ↓qf_geqI, ↓q_addI, ↓q_subI, ↓q_rem, ↓q_min, ↓q_max, ↓pk_move, ↓pk_neg, ↓pk_addS, ↓pk_mulI, ↓pk_binB, ↓pk_nilPtr, ↓pk_nilMap, ↓pk_nilSlice, ↓pk_nilIfaceN, ↓pk_nilIface, ↓pk_build0, ↓pk_ext0, ↓pk_ext1, ↓pk_ext30, ↓pk_ext31, ↓pk_ext32, ↓pk_lenStr, ↓pk_lenSl, ↓pk_fieldAddr, ↓pk_nilCheck, ↓pk_nilCheckI, ↓pk_indexAddr, ↓pk_indexAddrArr, ↓pk_mkIface, ↓pk_assertT, ↓pk_slLo, ↓pk_slHi, ↓rk_load1, ↓rk_lookupS, ↓rk_lookupI, ↓rk_lenMap, ↓wk_box, ↓wk_new, ↓wk_mkMap, ↓wk_store, ↓wk_mapSetS, ↓wk_mapSetI, ↓pk_field, ↓pk_mkFunc, ↓wk_boxA, ↓wk_strToBytes, ↓wk_delS, ↓wk_delI, ↓pk_build, ↓wk_sliceLit0, ↓pj_eqS, ↓pj_neqS, ↓pj_eqI, ↓pj_neqI, ↓pj_lssI, ↓pj_leqI, ↓pj_gtrI, ↓pj_geqI, getK_some, get_put_same, get_put_ne, get_new_same, get_new_ne, lputs_5, lputs_6, lputs_z, lputs_s, fillK_nil, fillK_cons, List.drop_succ_cons, List.drop_zero, List.drop_nil, List.cons_append, List.nil_append, St.next_new, St.next_put, lputs_0, lputs_1, lputs_2, lputs_3, lputs_4, List.length_cons, List.length_nil, List.all_cons, List.all_nil, Bool.and_true, Bool.true_and, Nat.reduceLeDiff, eq_self, List.toList_toArray, ↓reduceIte, if_true, if_false, reduceCtorEq, Nat.reduceEqDiff, Nat.reduceAdd, Nat.zero_add, Nat.add_zero, Option.getD_some, Option.some.injEq, cond_true, cond_false, Value.bool.injEq, Bool.not_true, Bool.not_false, Bool.bne_true, Bool.bne_false, Option.isNone_some, Option.isNone_none, Bool.xor_false, Bool.xor_true, Bool.false_xor, Bool.true_xor, true_and, and_true, Bool.not_not, bne_self_eq_false, beq_self_eq_true, cgT_eq, cells_agg, cells_int, cells_str, cells_bool, cells_slice, cells_ptr, cells_map, cells_iface, cells_nif, one_int, one_str, one_bool, one_slice, one_ptr, one_map, one_iface, one_nif, Int.reduceLT, Int.reduceLE, Int.reduceEq, Nat.reduceLT, Int.reduceToNat, Int.reduceAdd, Int.reduceSub, cast_zero, cast_one, ↓hn, ↓hn2]
  refine iteI (fun he => ?_) (fun he => ?_)
  case refine_2 =>
    have : l ≠ m := fun e => he (by rw [e])
    rw [decide_eq_false this] at h
    exact h
  have he' : l.length = m.length := by omega
  refine loop_rule [0, 1, 5] (fun vs st' => st' = st ∧ ∃ j : Nat, vs = [u, v, .int .i64 j] ∧ j ≤ l.length ∧ l.take j = m.take j) (fun vs _ => match lget vs 2 with
      | .int _ k => ((l.length : Int) - k).toNat
      | _ => 0) ?_ ?_ ?_
  · rfl
  · refine ⟨_, rfl, ⟨rfl, 0, rfl, Nat.zero_le _, rfl⟩, ?_⟩
    show ((l.length : Int) - 0).toNat < 100000
    omega
  · rintro vs st' ⟨rfl, j, rfl, j1, j2⟩
    show sx _ _ _ _ _ [(0, _), (1, _), (5, _)] _ _ _ _
    have i1 := idx_bys hu
    have i2 := idx_bys hv
    have l1 := load_bys hu
    have l2 := load_bys hv
    by_cases hj : j < l.length
    · simp (disch := omega) only [↓getE_cons, ↓argE_t, ↓argE_c, ↓argE_g, ↓argsE_nil, ↓argsE_cons, ↓opE_eq, ↓listE_nil, ↓listE_some, ↓listE_none, ↓grpsE_nil, ↓grpsE_some, ↓grpsE_none, ↓getU_cons, ↓putK_nil, ↓putK_some, ↓putK_none, ↓putU_nil, ↓putU_some, ↓putU_none, ↓grpsE_grp, ↓sx_skip, ↓sx_region, ↓sx_seq, ↓sx_cond, ↓sx_block, ↓sx_loop, ↓sx_exit, ↓sx_ret, ↓fnP_0, ↓fnP_1, ↓fnP_2, ↓fnP_3, ↓fnP_4, ↓opK_p, ↓opK_r, ↓opK_w, ↓opK_next, ↓opK_call, ↓opK_callV, ↓resP_0, ↓resP_1, ↓resP_2, ↓resP_3, ↓rowK_row, ↓mapK_map, ↓nthK_zero, ↓nthK_succ, ↓lget_zero, ↓lget_succ, ↓grpJ_tt, ↓grpJ_ff, ↓grpJ_tf, ↓grpJ_ft, ↓grpJ_un, ↓condK_t, ↓condK_f, ↓pt_pick, ↓pf_pick, ↓pt_not, ↓pf_not, ↓qt_eqI, ↓qf_eqI, ↓qt_neqI, ↓qf_neqI, ↓qt_lssI, ↓qf_lssI, ↓qt_leqI, ↓qf_leqI, ↓qt_gtrI, ↓qf_gtrI, ↓qt_geqI, ↓qf_geqI, ↓q_addI, ↓q_subI, ↓q_rem, ↓q_min, ↓q_max, ↓pk_move, ↓pk_neg, ↓pk_addS, ↓pk_mulI, ↓pk_binB, ↓pk_nilPtr, ↓pk_nilMap, ↓pk_nilSlice, ↓pk_nilIfaceN, ↓pk_nilIface, ↓pk_build0, ↓pk_ext0, ↓pk_ext1, ↓pk_ext30, ↓pk_ext31, ↓pk_ext32, ↓pk_lenStr, ↓pk_lenSl, ↓pk_fieldAddr, ↓pk_nilCheck, ↓pk_nilCheckI, ↓pk_indexAddr, ↓pk_indexAddrArr, ↓pk_mkIface, ↓pk_assertT, ↓pk_slLo, ↓pk_slHi, ↓rk_load1, ↓rk_lookupS, ↓rk_lookupI, ↓rk_lenMap, ↓wk_box, ↓wk_new, ↓wk_mkMap, ↓wk_store, ↓wk_mapSetS, ↓wk_mapSetI, ↓pk_field, ↓pk_mkFunc, ↓wk_boxA, ↓wk_strToBytes, ↓wk_delS, ↓wk_delI, ↓pk_build, ↓wk_sliceLit0, ↓pj_eqS, ↓pj_neqS, ↓pj_eqI, ↓pj_neqI, ↓pj_lssI, ↓pj_leqI, ↓pj_gtrI, ↓pj_geqI, getK_some, get_put_same, get_put_ne, get_new_same, get_new_ne, lputs_5, lputs_6, lputs_z, lputs_s, fillK_nil, fillK_cons, List.drop_succ_cons, List.drop_zero, List.drop_nil, List.cons_append, List.nil_append, St.next_new, St.next_put, lputs_0, lputs_1, lputs_2, lputs_3, lputs_4, List.length_cons, List.length_nil, List.all_cons, List.all_nil, Bool.and_true, Bool.true_and, Nat.reduceLeDiff, eq_self, List.toList_toArray, ↓reduceIte, if_true, if_false, reduceCtorEq, Nat.reduceEqDiff, Nat.reduceAdd, Nat.zero_add, Nat.add_zero, Option.getD_some, Option.some.injEq, cond_true, cond_false, Value.bool.injEq, Bool.not_true, Bool.not_false, Bool.bne_true, Bool.bne_false, Option.isNone_some, Option.isNone_none, Bool.xor_false, Bool.xor_true, Bool.false_xor, Bool.true_xor, true_and, and_true, Bool.not_not, bne_self_eq_false, beq_self_eq_true, cgT_eq, cells_agg, cells_int, cells_str, cells_bool, cells_slice, cells_ptr, cells_map, cells_iface, cells_nif, one_int, one_str, one_bool, one_slice, one_ptr, one_map, one_iface, one_nif, Int.reduceLT, Int.reduceLE, Int.reduceEq, Nat.reduceLT, Int.reduceToNat, Int.reduceAdd, Int.reduceSub, cast_zero, cast_one, ↓hn, ↓i1, ↓i2, ↓l1, ↓l2, u8v, Int.toNat_natCast]
      have e1 : l.getD j 0 = l[j] := by simp [List.getD, hj]
      have e2 : m.getD j 0 = m[j]'(by omega) := by simp [List.getD, (show j < m.length by omega)]
      refine iteI (fun hq => ?_) (fun hq => ?_)
      · rw [u8v_inj, e1, e2] at hq
        refine ⟨_, rfl, ⟨j + 1, ?_, hj, ?_⟩, ?_⟩
        · simp
        · rw [List.take_add_one, List.take_add_one, j2, List.getElem?_eq_getElem hj, List.getElem?_eq_getElem (by omega : j < m.length), hq]
        · show ((l.length : Int) - ((j : Int) + 1)).toNat < ((l.length : Int) - j).toNat
          omega
      · rw [u8v_inj, e1, e2] at hq
        have : l ≠ m := fun e => hq (by subst e; rfl)
        rw [decide_eq_false this] at h
        exact h
    · simp (disch := omega) only [↓getE_cons, ↓argE_t, ↓argE_c, ↓argE_g, ↓argsE_nil, ↓argsE_cons, ↓opE_eq, ↓listE_nil, ↓listE_some, ↓listE_none, ↓grpsE_nil, ↓grpsE_some, ↓grpsE_none, ↓getU_cons, ↓putK_nil, ↓putK_some, ↓putK_none, ↓putU_nil, ↓putU_some, ↓putU_none, ↓grpsE_grp, ↓sx_skip, ↓sx_region, ↓sx_seq, ↓sx_cond, ↓sx_block, ↓sx_loop, ↓sx_exit, ↓sx_ret, ↓fnP_0, ↓fnP_1, ↓fnP_2, ↓fnP_3, ↓fnP_4, ↓opK_p, ↓opK_r, ↓opK_w, ↓opK_next, ↓opK_call, ↓opK_callV, ↓resP_0, ↓resP_1, ↓resP_2, ↓resP_3, ↓rowK_row, ↓mapK_map, ↓nthK_zero, ↓nthK_succ, ↓lget_zero, ↓lget_succ, ↓grpJ_tt, ↓grpJ_ff, ↓grpJ_tf, ↓grpJ_ft, ↓grpJ_un, ↓condK_t, ↓condK_f, ↓pt_pick, ↓pf_pick, ↓pt_not, ↓pf_not, ↓qt_eqI, ↓qf_eqI, ↓qt_neqI, ↓qf_neqI, ↓qt_lssI, ↓qf_lssI, ↓qt_leqI, ↓qf_leqI, ↓qt_gtrI, ↓qf_gtrI, ↓qt_geqI, ↓qf_geqI, ↓q_addI, ↓q_subI, ↓q_rem, ↓q_min, ↓q_max, ↓pk_move, ↓pk_neg, ↓pk_addS, ↓pk_mulI, ↓pk_binB, ↓pk_nilPtr, ↓pk_nilMap, ↓pk_nilSlice, ↓pk_nilIfaceN, ↓pk_nilIface, ↓pk_build0, ↓pk_ext0, ↓pk_ext1, ↓pk_ext30, ↓pk_ext31, ↓pk_ext32, ↓pk_lenStr, ↓pk_lenSl, ↓pk_fieldAddr, ↓pk_nilCheck, ↓pk_nilCheckI, ↓pk_indexAddr, ↓pk_indexAddrArr, ↓pk_mkIface, ↓pk_assertT, ↓pk_slLo, ↓pk_slHi, ↓rk_load1, ↓rk_lookupS, ↓rk_lookupI, ↓rk_lenMap, ↓wk_box, ↓wk_new, ↓wk_mkMap, ↓wk_store, ↓wk_mapSetS, ↓wk_mapSetI, ↓pk_field, ↓pk_mkFunc, ↓wk_boxA, ↓wk_strToBytes, ↓wk_delS, ↓wk_delI, ↓pk_build, ↓wk_sliceLit0, ↓pj_eqS, ↓pj_neqS, ↓pj_eqI, ↓pj_neqI, ↓pj_lssI, ↓pj_leqI, ↓pj_gtrI, ↓pj_geqI, getK_some, get_put_same, get_put_ne, get_new_same, get_new_ne, lputs_5, lputs_6, lputs_z, lputs_s, fillK_nil, fillK_cons, List.drop_succ_cons, List.drop_zero, List.drop_nil, List.cons_append, List.nil_append, St.next_new, St.next_put, lputs_0, lputs_1, lputs_2, lputs_3, lputs_4, List.length_cons, List.length_nil, List.all_cons, List.all_nil, Bool.and_true, Bool.true_and, Nat.reduceLeDiff, eq_self, List.toList_toArray, ↓reduceIte, if_true, if_false, reduceCtorEq, Nat.reduceEqDiff, Nat.reduceAdd, Nat.zero_add, Nat.add_zero, Option.getD_some, Option.some.injEq, cond_true, cond_false, Value.bool.injEq, Bool.not_true, Bool.not_false, Bool.bne_true, Bool.bne_false, Option.isNone_some, Option.isNone_none, Bool.xor_false, Bool.xor_true, Bool.false_xor, Bool.true_xor, true_and, and_true, Bool.not_not, bne_self_eq_false, beq_self_eq_true, cgT_eq, cells_agg, cells_int, cells_str, cells_bool, cells_slice, cells_ptr, cells_map, cells_iface, cells_nif, one_int, one_str, one_bool, one_slice, one_ptr, one_map, one_iface, one_nif, Int.reduceLT, Int.reduceLE, Int.reduceEq, Nat.reduceLT, Int.reduceToNat, Int.reduceAdd, Int.reduceSub, cast_zero, cast_one, ↓hn]
      have : l = m := by
        have e : j = l.length := by omega
        rw [e, List.take_length, he', List.take_length] at j2
        exact j2
      rw [decide_eq_true this] at h
      exact h
end Go.Proofs.YtocofoiijfofaaaDoor
