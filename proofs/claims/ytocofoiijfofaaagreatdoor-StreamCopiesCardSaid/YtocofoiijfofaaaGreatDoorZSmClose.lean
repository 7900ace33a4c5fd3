/-
  Close, as what streams are has it.
-/
import Derived.Test.YtocofoiijfofaaaGreatDoorZSmApi2
set_option linter.unusedSimpArgs false
set_option linter.unusedVariables false
set_option maxRecDepth 10000
set_option linter.unusedSectionVars false
namespace Go.Proofs.YtocofoiijfofaaaGreatDoor
open Go.Am
attribute [local irreducible] callO wopK ropK popK opK grpsE listE sx Runs

theorem SMOk.setPm {M : SM} (h : SMOk M) {nm : ByteArray} {pm' : PM} (hno : ∀ j r, (j, HM.pe nm r) ∉ M.hnd) (h2 : (pm'.writing = true → pm'.wrote = true) ∧ (pm'.reading = true → pm'.read = true)) : SMOk { M with pipes := aset M.pipes nm pm' } where
  nf := h.nf
  np := aset_nodup h.np _ _
  na := h.na
  nh := h.nh
  ids := h.ids
  l0 := h.l0
  pes := fun id nm' r hm => by
    obtain ⟨pm1, k1, k2⟩ := h.pes id nm' r hm
    refine ⟨pm1, ?_, k2⟩
    show aget (aset M.pipes nm _) nm' = _
    rw [aget_aset, if_neg (fun e => by subst e; exact hno _ _ hm)]
    exact k1
  one := h.one
  was := fun nm' pm1 hg' => by
    have : aget (aset M.pipes nm pm') nm' = some pm1 := hg'
    rw [aget_aset] at this
    split at this
    · cases this; exact h2
    · exact h.was nm' pm1 this

theorem cRd (n : Nat) {x y : Value} {st : St} {K : Value → St → Prop} (h : K (.tuple #[]) st) : callK (callO T0 orc fns 100000 (n + 1)) 177 [x, y] st K := by
  refine fn_runs (fn := g177) ?_ ?_ ?_
  · rfl
  · rfl
  unfold g177
  simp (disch := omega) only [↓getE_cons, ↓argE_t, ↓argE_c, ↓argE_g, ↓argsE_nil, ↓argsE_cons, ↓opE_eq, ↓listE_nil, ↓listE_some, ↓listE_none, ↓grpsE_nil, ↓grpsE_some, ↓grpsE_none, ↓getU_cons, ↓putK_nil, ↓putK_some, ↓putK_none, ↓putU_nil, ↓putU_some, ↓putU_none, ↓grpsE_grp, ↓sx_skip, ↓sx_region, ↓sx_seq, ↓sx_cond, ↓sx_block, ↓sx_loop, ↓sx_exit, ↓sx_ret, ↓fnP_0, ↓fnP_1, ↓fnP_2, ↓fnP_3, ↓fnP_4, ↓opK_p, ↓opK_r, ↓opK_w, ↓opK_next, ↓opK_call, ↓opK_callV, ↓defsV_tuple, ↓defsK_func, ↓defsK_end, ↓endK_get, ↓fnD_1, ↓fnD_2, ↓fnD_3, ↓resP_0, ↓resP_1, ↓resP_2, ↓resP_3, ↓rowK_row, ↓mapK_map, ↓nthK_zero, ↓nthK_succ, ↓lget_zero, ↓lget_succ, ↓grpJ_tt, ↓grpJ_ff, ↓grpJ_tf, ↓grpJ_ft, ↓grpJ_un, ↓condK_t, ↓condK_f, ↓pt_pick, ↓pf_pick, ↓pt_not, ↓pf_not, ↓qt_eqI, ↓qf_eqI, ↓qt_neqI, ↓qf_neqI, ↓qt_lssI, ↓qf_lssI, ↓qt_leqI, ↓qf_leqI, ↓qt_gtrI, ↓qf_gtrI, ↓qt_geqI, ↓qf_geqI, ↓q_addI, ↓q_subI, ↓q_rem, ↓q_min, ↓q_max, ↓pk_push, ↓pk_move, ↓pk_neg, ↓pk_addS, ↓pk_mulI, ↓pk_binB, ↓pk_nilPtr, ↓pk_nilMap, ↓pk_nilSlice, ↓pk_nilIfaceN, ↓pk_nilIface, ↓pk_build0, ↓pk_ext0, ↓pk_ext1, ↓pk_ext30, ↓pk_ext31, ↓pk_ext32, ↓pk_ext1_, ↓pk_lenStr, ↓pk_lenSl, ↓pk_fieldAddr, ↓pk_nilCheck, ↓pk_nilCheckI, ↓pk_indexAddr, ↓pk_indexAddrArr, ↓pk_mkIface, ↓pk_assertT, ↓pk_slLo, ↓pk_slHi, ↓rk_load1, ↓rk_lookupS, ↓rk_lookupI, ↓rk_lenMap, ↓wk_box, ↓wk_new, ↓wk_mkMap, ↓wk_store, ↓wk_mapSetS, ↓wk_mapSetI, ↓pk_field, ↓pk_mkFunc, ↓wk_boxA, ↓wk_strToBytes, ↓wk_delS, ↓wk_delI, ↓pk_build, ↓wk_range, ↓pk_convI, ↓wk_sliceLit, ↓wk_sliceLit0, ↓pj_eqS, ↓pj_neqS, ↓pj_eqI, ↓pj_neqI, ↓pj_lssI, ↓pj_leqI, ↓pj_gtrI, ↓pj_geqI, getK_some, get_put_same, get_put_ne, get_new_same, get_new_ne, lputs_5, lputs_6, lputs_z, lputs_s, fillK_nil, fillK_cons, fillC_nil, fillC_cons, List.drop_succ_cons, List.drop_zero, List.drop_nil, List.cons_append, List.nil_append, St.next_new, St.next_put, lputs_0, lputs_1, lputs_2, lputs_3, lputs_4, List.length_cons, List.length_nil, List.all_cons, List.all_nil, Bool.and_true, Bool.true_and, Nat.reduceLeDiff, eq_self, List.toList_toArray, ↓reduceIte, if_true, if_false, reduceCtorEq, Nat.reduceEqDiff, Nat.reduceAdd, Nat.zero_add, Nat.add_zero, Option.getD_some, Option.some.injEq, cond_true, cond_false, Value.bool.injEq, Bool.not_true, Bool.not_false, Bool.bne_true, Bool.bne_false, Option.isNone_some, Option.isNone_none, Bool.xor_false, Bool.xor_true, Bool.false_xor, Bool.true_xor, true_and, and_true, Bool.not_not, bne_self_eq_false, beq_self_eq_true, cgT_eq, cells_agg, cells_int, cells_str, cells_bool, cells_slice, cells_ptr, cells_map, cells_iface, cells_nif, one_int, one_str, one_bool, one_slice, one_ptr, one_map, one_iface, one_nif, Int.reduceLT, Int.reduceLE, Int.reduceEq, Nat.reduceLT, Int.reduceToNat, Int.reduceAdd, Int.reduceSub, cast_zero, cast_one]
  exact h

theorem cNl (n : Nat) {b : Bool} {y : Value} {st : St} {K : Value → St → Prop} (h : ∀ st', st.next ≤ st'.next → (∀ i, i < st.next → st'.get i = st.get i) → K (.tuple #[]) st') : callK (callO T0 orc fns 100000 (n + 1)) 175 [.agg #[.bool b], y] st K := by
  refine fn_runs (fn := g175) ?_ ?_ ?_
  · rfl
  · rfl
  unfold g175
  simp (disch := omega) only [↓getE_cons, ↓argE_t, ↓argE_c, ↓argE_g, ↓argsE_nil, ↓argsE_cons, ↓opE_eq, ↓listE_nil, ↓listE_some, ↓listE_none, ↓grpsE_nil, ↓grpsE_some, ↓grpsE_none, ↓getU_cons, ↓putK_nil, ↓putK_some, ↓putK_none, ↓putU_nil, ↓putU_some, ↓putU_none, ↓grpsE_grp, ↓sx_skip, ↓sx_region, ↓sx_seq, ↓sx_cond, ↓sx_block, ↓sx_loop, ↓sx_exit, ↓sx_ret, ↓fnP_0, ↓fnP_1, ↓fnP_2, ↓fnP_3, ↓fnP_4, ↓opK_p, ↓opK_r, ↓opK_w, ↓opK_next, ↓opK_call, ↓opK_callV, ↓defsV_tuple, ↓defsK_func, ↓defsK_end, ↓endK_get, ↓fnD_1, ↓fnD_2, ↓fnD_3, ↓resP_0, ↓resP_1, ↓resP_2, ↓resP_3, ↓rowK_row, ↓mapK_map, ↓nthK_zero, ↓nthK_succ, ↓lget_zero, ↓lget_succ, ↓grpJ_tt, ↓grpJ_ff, ↓grpJ_tf, ↓grpJ_ft, ↓grpJ_un, ↓condK_t, ↓condK_f, ↓pt_pick, ↓pf_pick, ↓pt_not, ↓pf_not, ↓qt_eqI, ↓qf_eqI, ↓qt_neqI, ↓qf_neqI, ↓qt_lssI, ↓qf_lssI, ↓qt_leqI, ↓qf_leqI, ↓qt_gtrI, ↓qf_gtrI, ↓qt_geqI, ↓qf_geqI, ↓q_addI, ↓q_subI, ↓q_rem, ↓q_min, ↓q_max, ↓pk_push, ↓pk_move, ↓pk_neg, ↓pk_addS, ↓pk_mulI, ↓pk_binB, ↓pk_nilPtr, ↓pk_nilMap, ↓pk_nilSlice, ↓pk_nilIfaceN, ↓pk_nilIface, ↓pk_build0, ↓pk_ext0, ↓pk_ext1, ↓pk_ext30, ↓pk_ext31, ↓pk_ext32, ↓pk_ext1_, ↓pk_lenStr, ↓pk_lenSl, ↓pk_fieldAddr, ↓pk_nilCheck, ↓pk_nilCheckI, ↓pk_indexAddr, ↓pk_indexAddrArr, ↓pk_mkIface, ↓pk_assertT, ↓pk_slLo, ↓pk_slHi, ↓rk_load1, ↓rk_lookupS, ↓rk_lookupI, ↓rk_lenMap, ↓wk_box, ↓wk_new, ↓wk_mkMap, ↓wk_store, ↓wk_mapSetS, ↓wk_mapSetI, ↓pk_field, ↓pk_mkFunc, ↓wk_boxA, ↓wk_strToBytes, ↓wk_delS, ↓wk_delI, ↓pk_build, ↓wk_range, ↓pk_convI, ↓wk_sliceLit, ↓wk_sliceLit0, ↓pj_eqS, ↓pj_neqS, ↓pj_eqI, ↓pj_neqI, ↓pj_lssI, ↓pj_leqI, ↓pj_gtrI, ↓pj_geqI, getK_some, get_put_same, get_put_ne, get_new_same, get_new_ne, lputs_5, lputs_6, lputs_z, lputs_s, fillK_nil, fillK_cons, fillC_nil, fillC_cons, List.drop_succ_cons, List.drop_zero, List.drop_nil, List.cons_append, List.nil_append, St.next_new, St.next_put, lputs_0, lputs_1, lputs_2, lputs_3, lputs_4, List.length_cons, List.length_nil, List.all_cons, List.all_nil, Bool.and_true, Bool.true_and, Nat.reduceLeDiff, eq_self, List.toList_toArray, ↓reduceIte, if_true, if_false, reduceCtorEq, Nat.reduceEqDiff, Nat.reduceAdd, Nat.zero_add, Nat.add_zero, Option.getD_some, Option.some.injEq, cond_true, cond_false, Value.bool.injEq, Bool.not_true, Bool.not_false, Bool.bne_true, Bool.bne_false, Option.isNone_some, Option.isNone_none, Bool.xor_false, Bool.xor_true, Bool.false_xor, Bool.true_xor, true_and, and_true, Bool.not_not, bne_self_eq_false, beq_self_eq_true, cgT_eq, cells_agg, cells_int, cells_str, cells_bool, cells_slice, cells_ptr, cells_map, cells_iface, cells_nif, one_int, one_str, one_bool, one_slice, one_ptr, one_map, one_iface, one_nif, Int.reduceLT, Int.reduceLE, Int.reduceEq, Nat.reduceLT, Int.reduceToNat, Int.reduceAdd, Int.reduceSub, cast_zero, cast_one]
  exact h _ (Nat.le_succ _) fun i hi => get_new_ne _ _ _ (by omega)

section
variable {own own' : Nat → Own} {pb pb' : ByteArray → Nat} {st s2 s3 : St} {N : Nat} {M : SM} {K : Value → St → Prop}

theorem pCloseR (n : Nat) (hR : Rep own pb st N M) {id : Int} {pa : ByteArray} {b : List UInt8} (hg : aget M.hnd id = some (.rd pa b))
    (hK : ∀ st', Rep own pb st' N { M with hnd := adel M.hnd id } → Fr own own st st' → K (.int .i64 0) st') :
    callK (callO T0 orc fns 100000 (n + 2)) 10 [.pointer (some ⟨N, 0, none⟩), .int .i64 id] st K := by
  obtain ⟨es, c, j, v, q1, q2, q3, q4, e, u, e1, e2, e3, e4, e5, e6⟩ := hR.find hg
  subst e1
  refine kClose (n + 1) hR.str q1 q4 (fc := 177) rfl ?_
  have fin := hR.closed q1 q2 q3 q4
  exact cRd n (hK _ fin.1 fin.2)

theorem pCloseN (n : Nat) (hR : Rep own pb st N M) {id : Int} {r : Bool} (hg : aget M.hnd id = some (.nl r))
    (hK : ∀ st', Rep own pb st' N { M with hnd := adel M.hnd id } → Fr own own st st' → K (.int .i64 0) st') :
    callK (callO T0 orc fns 100000 (n + 2)) 10 [.pointer (some ⟨N, 0, none⟩), .int .i64 id] st K := by
  obtain ⟨es, c, j, v, q1, q2, q3, q4, e1⟩ := hR.find hg
  subst e1
  refine kClose (n + 1) hR.str q1 q4 (fc := 175) rfl ?_
  have fin := hR.closed q1 q2 q3 q4
  refine cNl n fun s2 a1 a2 => ?_
  have fin2 := fin.1.more a1 a2
  exact hK _ fin2.1 (fin.2.trans fin2.2)

theorem adel_no {l : List (Int × HM)} (hn : (l.map (·.1)).Nodup) (id : Int) (x : HM) : (id, x) ∉ adel l id := by
  intro hm
  have := aget_adel hn id id
  rw [if_pos rfl, aget_none] at this
  exact this (List.mem_map_of_mem (f := (·.1)) hm)

theorem pCloseW (n : Nat) (hR : Rep own pb st N M) {id : Int} {pa : ByteArray} {b : List UInt8} (hg : aget M.hnd id = some (.wr pa b))
    (hK : ∀ own' st', Rep own' pb st' N { M with hnd := adel M.hnd id, files := aset M.files pa b } → Fr own own' st st' → K (.int .i64 0) st') :
    callK (callO T0 orc fns 100000 (n + 2)) 10 [.pointer (some ⟨N, 0, none⟩), .int .i64 id] st K := by
  obtain ⟨es, c, j, v, q1, q2, q3, q4, e, u, e1, e2, e3, e4, e5, e6⟩ := hR.find hg
  subst e1
  refine kClose (n + 1) hR.str q1 q4 (fc := 174) rfl ?_
  have fin := hR.closed q1 q2 q3 q4
  obtain ⟨fs, fc, f1, f2, f3⟩ := fin.1.fil
  have hene : e ≠ N + 4 := fun h => by rw [h, hR.core _ (by omega) (by omega)] at e2; cases e2
  have he3 : (st.put (N + 4) (some (.map (es.eraseIdx j) c))).get e = some (ramRow pa u) := by rw [get_put_ne _ _ _ _ (fun h => hene h.symm)]; exact e3
  have hug : Gro (st.put (N + 4) (some (.map (es.eraseIdx j) c))) u b := e4.keep fun i hi => get_put_ne _ _ _ _ (fun h => by
    have := e5.is hi
    rw [← h, hR.core _ (by omega) (by omega)] at this
    cases this)
  have hid := adel_no hR.ok.nh id
  rcases f3.find key_str pa 0 with ⟨k1, k2⟩ | ⟨jj, vv, a, k1, k2, k3⟩
  · refine ramKeep n fin.1.str f1 he3 (fs' := fs ++ [(.string pa, u, fc)]) (fc' := fc + 1) (fun K => set_miss k1 K) ?_
    have fin2 := fin.1.filed hug e5 hid e6 f1 (f2.snoc (.string pa) u) (fun {R'} hq hr => f3.snoc hq k2 hr)
    exact hK _ _ fin2.1 (fin.2.trans fin2.2)
  · rw [Nat.zero_add] at k1
    refine ramKeep n fin.1.str f1 he3 (fs' := fs.modify jj fun e => (.string pa, u, e.2.2)) (fc' := fc) (fun K => set_hit k1 K) ?_
    have fin2 := fin.1.filed hug e5 hid e6 f1 (f2.modify jj (.string pa) u) (fun {R'} hq hr => f3.modify key_str (i := 0) (v := vv) hq hR.ok.nf (by rw [Nat.zero_add]; exact k1) hr)
    exact hK _ _ fin2.1 (fin.2.trans fin2.2)

theorem pCloseP (n : Nat) (hR : Rep own pb st N M) {id : Int} {nm : ByteArray} {pm : PM} (hg : aget M.hnd id = some (.pe nm false)) (hpm : aget M.pipes nm = some pm) (hrd : pm.read = false) (hone : ∀ j r, (j, HM.pe nm r) ∉ adel M.hnd id)
    (hK : ∀ st', Rep own pb st' N { M with hnd := adel M.hnd id, pipes := aset M.pipes nm { pm with writing := false } } → Fr own own st st' → K (.int .i64 0) st') :
    callK (callO T0 orc fns 100000 (n + 2)) 10 [.pointer (some ⟨N, 0, none⟩), .int .i64 id] st K := by
  obtain ⟨es, c, j, v, q1, q2, q3, q4, e, e1, e2, e3⟩ := hR.find hg
  subst e1
  refine kClose (n + 1) hR.str q1 q4 (fc := 176) rfl ?_
  have fin := hR.closed q1 q2 q3 q4
  obtain ⟨ps, pc, p1, p2, p3⟩ := fin.1.pip
  rcases p3.find key_str nm 0 with ⟨_, k⟩ | ⟨j', pv, a, k1, k2, k3⟩
  · rw [hpm] at k; cases k
  · rw [hpm] at k2
    cases k2
    rw [Nat.zero_add] at k1
    obtain ⟨u, r1, r2, r3, r4, r5, r6⟩ := k3
    subst r1
    have hene : e ≠ N + 4 := fun h => by rw [h, hR.core _ (by omega) (by omega)] at e2; cases e2
    have hepp : e ≠ pb nm := fun h => by rw [h, r2] at e2; cases e2
    have hnpp : N ≠ pb nm := fun h => by rw [← h, hR.core _ (by omega) (by omega)] at r2; cases r2
    have he3 : (st.put (N + 4) (some (.map (es.eraseIdx j) c))).get e = some (endRow nm (pb nm) false) := by rw [get_put_ne _ _ _ _ (fun h => hene h.symm)]; exact e3
    refine endKeep n fin.1.str he3 r3 hepp hnpp (.inr (.inl hrd)) ?_
    have hrr : pm.reading = false := by
      cases hh : pm.reading with
      | false => rfl
      | true => have := (hR.ok.was nm pm hpm).2 hh; rw [hrd] at this; cases this
    have fin2 := fin.1.piped (own' := own) (nm := nm) (pm' := { pm with writing := false }) (s2 := (st.put (N + 4) (some (.map (es.eraseIdx j) c))).put (pb nm) (some (pipeRow u pm.wrote (false && pm.writing) pm.read (!false && pm.reading)))) p1 p2 p3 k1 (fun i _ i2 _ => get_put_ne _ _ _ _ (fun h => i2 (h ▸ r2))) (Nat.le_refl _) (fun _ _ => rfl) fin.1.fresh (fun _ _ h => h)
      ⟨u, rfl, r2, by rw [get_put_same]; simp, r4.keep fun i hi => get_put_ne _ _ _ _ (fun h => by have := r5.is hi; rw [← h, r2] at this; cases this), r5, r6⟩ (fin.1.ok.setPm hone ⟨fun h => (by cases h), fun h => (by rw [hrr] at h; cases h)⟩)
    exact hK _ fin2.1 (fin.2.trans fin2.2)
end
end Go.Proofs.YtocofoiijfofaaaGreatDoor
