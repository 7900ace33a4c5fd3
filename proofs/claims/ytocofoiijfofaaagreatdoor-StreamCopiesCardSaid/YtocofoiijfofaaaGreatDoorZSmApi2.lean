/-
  Read, Write, Close, each as what streams are has it.
-/
import Derived.Test.YtocofoiijfofaaaGreatDoorZSmApi
set_option linter.unusedSimpArgs false
set_option linter.unusedVariables false
set_option maxRecDepth 10000
set_option linter.unusedSectionVars false
namespace Go.Proofs.YtocofoiijfofaaaGreatDoor
open Go.Am
attribute [local irreducible] callO wopK ropK popK opK grpsE listE sx Runs

section
variable {own own' : Nat → Own} {pb pb' : ByteArray → Nat} {st s2 s3 : St} {N : Nat} {M : SM} {K : Value → St → Prop}

/-- a slice that is nobody's -/
def Free (own : Nat → Own) (st : St) (v : Value) : Prop := (ow v = 0 ∨ own (ow v - 1) = .no) ∧ ow v ≤ st.next

theorem pRead (n : Nat) (hR : Rep own pb st N M) {id x : Int} {pa : ByteArray} {b : List UInt8} (hg : aget M.hnd id = some (.rd pa b)) (hx : 1 ≤ x) (hx2 : x ≤ 10000)
    (h1 : b = [] → K (.tuple #[.slice none 0 0, .bool true, .int .i64 0]) st)
    (h3 : b ≠ [] → ∀ u st', Rep own pb st' N { M with hnd := aset M.hnd id (.rd pa (b.drop x.toNat)) } → Fr own own st st' → Gro st' u (b.take x.toNat) → Free own st' u → K (.tuple #[u, .bool false, .int .i64 0]) st') :
    callK (callO T0 orc fns 100000 (n + 3)) 24 [.pointer (some ⟨N, 0, none⟩), .int .i64 id, .int .i64 x] st K := by
  obtain ⟨es, c, j, v, q1, q2, q3, q4, e, u, e1, e2, e3, e4, e5, e6⟩ := hR.find hg
  subst e1
  have hen : e < st.next := hR.fresh e (by rw [e2]; exact fun h => by cases h)
  refine rRam n hR.str q1 q4 e3 e4 e6 hx hx2 hen (e5.le hR.fresh (fun h => by cases h)) (e5.ne (by rw [e2]; exact fun h => by cases h)) h1 fun hb u' v' s2 a1 a2 a3 a4 a5 a6 a7 => ?_
  have hu : ∀ i, own i ≠ .no → i < st.next := hR.fresh
  have fin := hR.turned (own' := own) (x := .rd pa (b.drop x.toNat)) hg rfl q1 q2 q3 q4 (fun i i1 i2 _ => a6 i (fun h => i2 (h ▸ e2)) i1) a5 (fun _ _ => rfl) (fun i hi => Nat.lt_of_lt_of_le (hu i hi) a5) (fun _ _ h => h)
    ⟨e, v', rfl, e2, a7, a2, (by rcases e5 with e5 | e5; exact .inl (a3.trans e5); exact .inr (by rw [a3]; exact e5)), by rw [List.length_drop]; omega⟩
  refine h3 hb u' s2 fin.1 fin.2 a1 ⟨?_, ?_⟩
  · rcases a4 with a4 | a4
    · exact .inl a4
    · right
      cases ho : own (ow u' - 1) with
      | no => rfl
      | _ => have := hu (ow u' - 1) (by rw [ho]; exact fun h => by cases h); omega
  · omega

theorem pWriteW (n : Nat) (hR : Rep own pb st N M) {id : Int} {pa : ByteArray} {l m : List UInt8} {w : Value} (hg : aget M.hnd id = some (.wr pa l)) (hw : Bys st w m) (hwn : Free own st w) (hm : m.length ≤ 9000000000000000000) (hlm : l.length + m.length ≤ 20000)
    (h2 : ∀ own' st', Rep own' pb st' N { M with hnd := aset M.hnd id (.wr pa (l ++ m)) } → Fr own own' st st' → K (.tuple #[.int .i64 m.length, .int .i64 0]) st') :
    callK (callO T0 orc fns 100000 (n + 2)) 9 [.pointer (some ⟨N, 0, none⟩), .int .i64 id, w] st K := by
  obtain ⟨es, c, j, v, q1, q2, q3, q4, e, u, e1, e2, e3, e4, e5, e6⟩ := hR.find hg
  subst e1
  have hen : e < st.next := hR.fresh e (by rw [e2]; exact fun h => by cases h)
  refine wRam n hR.str q1 q4 e3 e4 hw e6 hm hen (e5.le hR.fresh (fun h => by cases h)) (e5.ne (by rw [e2]; exact fun h => by cases h)) (fun h => by omega) fun _ v' s2 a1 a2 a3 a4 a5 => ?_
  obtain ⟨l1, l2, l3⟩ := lab1 (own := own) (o := .hv id) (v' := v') hR.fresh a3 e5 (fun h => by cases h) a2
  have fin := hR.turned (own' := lab own (ow v') (.hv id)) (x := .wr pa (l ++ m)) hg rfl q1 q2 q3 q4 (fun i i1 i2 i3 => a4 i (fun h => i3 (e5.is h)) (fun h => i2 (h ▸ e2)) i1) a3 l1 l2 l3
    ⟨e, v', rfl, by rw [l1 e (by rw [e2]; exact fun h => by cases h), e2], a5, a1, OwV.at _ _ _, by rw [List.length_append]; exact hlm⟩
  exact h2 _ s2 fin.1 fin.2

theorem wNil (n : Nat) {p f q a h : Nat} {last id : Int} {hs : List (Value × Value × Nat)} {hc j : Nat} {u : Value} {m : List UInt8} {st : St} {K : Value → St → Prop}
    (hp : StrAt st p f q a h last) (hh : st.get h = some (.map hs hc)) (hf : findV .int (.int .i64 id) hs 0 = some (some (j, .iface 84 (.agg #[.bool false])))) (hu : Bys st u m)
    (h2 : ∀ st', st.next ≤ st'.next → (∀ i, i < st.next → st'.get i = st.get i) → K (.tuple #[.int .i64 m.length, .int .i64 0]) st') :
    callK (callO T0 orc fns 100000 (n + 2)) 9 [.pointer (some ⟨p, 0, none⟩), .int .i64 id, u] st K := by
  refine fn_runs (fn := g9) ?_ ?_ ?_
  · rfl
  · rfl
  unfold g9
  unfold StrAt at hp
  have hn := len_bys hu
  have hlk := lookK_hit hf
  simp (disch := omega) only [↓getE_cons, ↓argE_t, ↓argE_c, ↓argE_g, ↓argsE_nil, ↓argsE_cons, ↓opE_eq, ↓listE_nil, ↓listE_some, ↓listE_none, ↓grpsE_nil, ↓grpsE_some, ↓grpsE_none, ↓getU_cons, ↓putK_nil, ↓putK_some, ↓putK_none, ↓putU_nil, ↓putU_some, ↓putU_none, ↓grpsE_grp, ↓sx_skip, ↓sx_region, ↓sx_seq, ↓sx_cond, ↓sx_block, ↓sx_loop, ↓sx_exit, ↓sx_ret, ↓fnP_0, ↓fnP_1, ↓fnP_2, ↓fnP_3, ↓fnP_4, ↓opK_p, ↓opK_r, ↓opK_w, ↓opK_next, ↓opK_call, ↓opK_callV, ↓defsV_tuple, ↓defsK_func, ↓defsK_end, ↓endK_get, ↓fnD_1, ↓fnD_2, ↓fnD_3, ↓resP_0, ↓resP_1, ↓resP_2, ↓resP_3, ↓rowK_row, ↓mapK_map, ↓nthK_zero, ↓nthK_succ, ↓lget_zero, ↓lget_succ, ↓grpJ_tt, ↓grpJ_ff, ↓grpJ_tf, ↓grpJ_ft, ↓grpJ_un, ↓condK_t, ↓condK_f, ↓pt_pick, ↓pf_pick, ↓pt_not, ↓pf_not, ↓qt_eqI, ↓qf_eqI, ↓qt_neqI, ↓qf_neqI, ↓qt_lssI, ↓qf_lssI, ↓qt_leqI, ↓qf_leqI, ↓qt_gtrI, ↓qf_gtrI, ↓qt_geqI, ↓qf_geqI, ↓q_addI, ↓q_subI, ↓q_rem, ↓q_min, ↓q_max, ↓pk_push, ↓pk_move, ↓pk_neg, ↓pk_addS, ↓pk_mulI, ↓pk_binB, ↓pk_nilPtr, ↓pk_nilMap, ↓pk_nilSlice, ↓pk_nilIfaceN, ↓pk_nilIface, ↓pk_build0, ↓pk_ext0, ↓pk_ext1, ↓pk_ext30, ↓pk_ext31, ↓pk_ext32, ↓pk_ext1_, ↓pk_lenStr, ↓pk_lenSl, ↓pk_fieldAddr, ↓pk_nilCheck, ↓pk_nilCheckI, ↓pk_indexAddr, ↓pk_indexAddrArr, ↓pk_mkIface, ↓pk_assertT, ↓pk_slLo, ↓pk_slHi, ↓rk_load1, ↓rk_lookupS, ↓rk_lookupI, ↓rk_lenMap, ↓wk_box, ↓wk_new, ↓wk_mkMap, ↓wk_store, ↓wk_mapSetS, ↓wk_mapSetI, ↓pk_field, ↓pk_mkFunc, ↓wk_boxA, ↓wk_strToBytes, ↓wk_delS, ↓wk_delI, ↓pk_build, ↓wk_range, ↓pk_convI, ↓wk_sliceLit, ↓wk_sliceLit0, ↓pj_eqS, ↓pj_neqS, ↓pj_eqI, ↓pj_neqI, ↓pj_lssI, ↓pj_leqI, ↓pj_gtrI, ↓pj_geqI, getK_some, get_put_same, get_put_ne, get_new_same, get_new_ne, lputs_5, lputs_6, lputs_z, lputs_s, fillK_nil, fillK_cons, fillC_nil, fillC_cons, List.drop_succ_cons, List.drop_zero, List.drop_nil, List.cons_append, List.nil_append, St.next_new, St.next_put, lputs_0, lputs_1, lputs_2, lputs_3, lputs_4, List.length_cons, List.length_nil, List.all_cons, List.all_nil, Bool.and_true, Bool.true_and, Nat.reduceLeDiff, eq_self, List.toList_toArray, ↓reduceIte, if_true, if_false, reduceCtorEq, Nat.reduceEqDiff, Nat.reduceAdd, Nat.zero_add, Nat.add_zero, Option.getD_some, Option.some.injEq, cond_true, cond_false, Value.bool.injEq, Bool.not_true, Bool.not_false, Bool.bne_true, Bool.bne_false, Option.isNone_some, Option.isNone_none, Bool.xor_false, Bool.xor_true, Bool.false_xor, Bool.true_xor, true_and, and_true, Bool.not_not, bne_self_eq_false, beq_self_eq_true, cgT_eq, cells_agg, cells_int, cells_str, cells_bool, cells_slice, cells_ptr, cells_map, cells_iface, cells_nif, one_int, one_str, one_bool, one_slice, one_ptr, one_map, one_iface, one_nif, Int.reduceLT, Int.reduceLE, Int.reduceEq, Nat.reduceLT, Int.reduceToNat, Int.reduceAdd, Int.reduceSub, cast_zero, cast_one, hp, hh, ↓hlk, ↓hn]
  refine h2 _ (by simp only [St.next_put, St.next_new]; omega) (fun i hi => ?_)
  simp (disch := ((try simp only [St.next_put, St.next_new]); omega)) only [get_put_ne, get_new_ne, St.next_put, St.next_new]

theorem Rep.more (hR : Rep own pb st N M) (hn : st.next ≤ s2.next) (hf : ∀ i, i < st.next → s2.get i = st.get i) : Rep own pb s2 N M ∧ Fr own own st s2 := by
  have same : ∀ i, own i ≠ .no → s2.get i = st.get i := fun i hi => hf i (hR.fresh i hi)
  obtain ⟨fes, fc, f1, f2, f3⟩ := hR.fil
  obtain ⟨pes, pc, p1, p2, p3⟩ := hR.pip
  obtain ⟨aes, ac, a1, a2, a3⟩ := hR.asg
  obtain ⟨hes, hc, h1, h2, h3⟩ := hR.hnd
  refine ⟨{
    n0 := hR.n0
    mx := ?_
    str := by show s2.get N = _; rw [hf N (hR.lt 0 (by omega))]; exact hR.str
    fil := ⟨fes, fc, (hf _ (hR.lt 1 (by omega))).trans f1, f2, f3.mono fun k a v _ hr => hr.keep (fun i hi => same i (by rw [hi]; exact fun e => by cases e)) fun i hi => hi⟩
    pip := ⟨pes, pc, (hf _ (hR.lt 2 (by omega))).trans p1, p2, p3.mono fun k a v _ hr => hr.keep (fun i hi => same i (by rcases hi with hi | hi <;> rw [hi] <;> exact fun e => by cases e)) (fun i hi => hi) (fun i hi => hi) rfl⟩
    asg := ⟨aes, ac, (hf _ (hR.lt 3 (by omega))).trans a1, a2, a3⟩
    hnd := ⟨hes, hc, (hf _ (hR.lt 4 (by omega))).trans h1, h2, h3.mono fun k a v _ hr => hr.keep (fun i hi => same i (by rcases hi with hi | hi <;> rw [hi] <;> exact fun e => by cases e)) (fun i hi => hi) (fun i hi => hi) (fun _ _ _ => rfl)⟩
    core := hR.core
    fresh := fun i hi => Nat.lt_of_lt_of_le (hR.fresh i hi) hn
    zero := hR.zero
    ok := hR.ok }, hn, fun i hi _ => hf i hi, fun _ _ h => h⟩
  have : s2.get 0 = st.get 0 := hf 0 (by have := hR.lt 0 (by omega); omega)
  unfold hasMax
  rw [this]
  exact hR.mx

theorem pWriteN (n : Nat) (hR : Rep own pb st N M) {id : Int} {m : List UInt8} {w : Value} (hg : aget M.hnd id = some (.nl false)) (hw : Bys st w m)
    (h2 : ∀ st', Rep own pb st' N M → Fr own own st st' → K (.tuple #[.int .i64 m.length, .int .i64 0]) st') :
    callK (callO T0 orc fns 100000 (n + 2)) 9 [.pointer (some ⟨N, 0, none⟩), .int .i64 id, w] st K := by
  obtain ⟨es, c, j, v, q1, q2, q3, q4, e1⟩ := hR.find hg
  subst e1
  refine wNil n hR.str q1 q4 hw fun s2 a1 a2 => ?_
  have fin := hR.more a1 a2
  exact h2 s2 fin.1 fin.2

/-- a pipe's own blocks turned: nothing else -/
theorem Rep.piped (hR : Rep own pb st N M) {nm : ByteArray} {pm' : PM} {es : List (Value × Value × Nat)} {pc j : Nat} {v : Value} (he : st.get (N + 2) = some (.map es pc)) (hst : Stamps es pc) (hmap : MapOk Value.string (PipeR own pb st) es M.pipes) (hfv : findV .str (.string nm) es 0 = some (some (j, v)))
    (hf : ∀ i, i < st.next → own i ≠ .p nm → own i ≠ .pv nm → s2.get i = st.get i) (hn : st.next ≤ s2.next)
    (ho : ∀ i, own i ≠ .no → own' i = own i) (hnew : ∀ i, own' i ≠ .no → i < s2.next) (hno : ∀ i, i < st.next → own i = .no → own' i = .no) (hv : PipeR own' pb s2 nm pm' v) (hok : SMOk { M with pipes := aset M.pipes nm pm' }) :
    Rep own' pb s2 N { M with pipes := aset M.pipes nm pm' } ∧ Fr own own' st s2 := by
  have hcl : ∀ i, N ≤ i → i < N + 5 → s2.get i = st.get i := fun i h1 h2 => by
    have hc := hR.core i h1 h2
    exact hf i (hR.fresh i (by rw [hc]; exact fun e => by cases e)) (by rw [hc]; exact fun e => by cases e) (by rw [hc]; exact fun e => by cases e)
  have kp : ∀ {i : Nat} {o : Own}, o ≠ .no → own i = o → own' i = o := fun h1 h2 => by rw [ho _ (by rw [h2]; exact h1), h2]
  have lt : ∀ i, i < st.next → own i = .no → s2.get i = st.get i := fun i i1 i2 => hf i i1 (by rw [i2]; exact fun e => by cases e) (by rw [i2]; exact fun e => by cases e)
  obtain ⟨fes, fc, f1, f2, f3⟩ := hR.fil
  obtain ⟨aes, ac, a1, a2, a3⟩ := hR.asg
  obtain ⟨hes, hc, h1, h2, h3⟩ := hR.hnd
  have hz : 0 < st.next := by have := hR.lt 0 (by omega); omega
  refine ⟨{
    n0 := hR.n0
    mx := ?_
    str := by show s2.get N = _; rw [hcl N (by omega) (by omega)]; exact hR.str
    fil := ⟨fes, fc, by rw [hcl _ (by omega) (by omega)]; exact f1, f2, f3.mono fun k a v _ hr => hr.keep (fun i hi => hf i (hR.fresh i (by rw [hi]; exact fun e => by cases e)) (by rw [hi]; exact fun e => by cases e) (by rw [hi]; exact fun e => by cases e)) fun i hi => kp (fun e => by cases e) hi⟩
    pip := ⟨es, pc, by rw [hcl _ (by omega) (by omega)]; exact he, hst, hmap.touch key_str (i := 0) (j := j) hv hR.ok.np (by rw [Nat.zero_add]; exact hfv) fun k a v hk hm hr => hr.keep (fun i hi => hf i (hR.fresh i (by rcases hi with hi | hi <;> rw [hi] <;> exact fun e => by cases e)) (by rcases hi with hi | hi <;> rw [hi] <;> exact fun e => by cases e <;> exact hk rfl) (by rcases hi with hi | hi <;> rw [hi] <;> exact fun e => by cases e <;> exact hk rfl)) (fun i hi => kp (fun e => by cases e) hi) (fun i hi => kp (fun e => by cases e) hi) rfl⟩
    asg := ⟨aes, ac, by rw [hcl _ (by omega) (by omega)]; exact a1, a2, a3⟩
    hnd := ⟨hes, hc, by rw [hcl _ (by omega) (by omega)]; exact h1, h2, h3.mono fun k a v _ hr => hr.keep (fun i hi => hf i (hR.fresh i (by rcases hi with hi | hi <;> rw [hi] <;> exact fun e => by cases e)) (by rcases hi with hi | hi <;> rw [hi] <;> exact fun e => by cases e) (by rcases hi with hi | hi <;> rw [hi] <;> exact fun e => by cases e)) (fun i hi => kp (fun e => by cases e) hi) (fun i hi => kp (fun e => by cases e) hi) (fun _ _ _ => rfl)⟩
    core := fun i i1 i2 => by rw [ho i (by rw [hR.core i i1 i2]; exact fun e => by cases e), hR.core i i1 i2]
    fresh := hnew
    zero := hno 0 hz hR.zero
    ok := hok }, hn, lt, hno⟩
  have : s2.get 0 = st.get 0 := lt 0 hz hR.zero
  unfold hasMax
  rw [this]
  exact hR.mx

theorem pWriteP (n : Nat) (hR : Rep own pb st N M) {id : Int} {nm : ByteArray} {pm : PM} {m : List UInt8} {w : Value} (hg : aget M.hnd id = some (.pe nm false)) (hpm : aget M.pipes nm = some pm) (hrd : pm.read = false) (hw : Bys st w m) (hwn : Free own st w) (hm : m.length ≤ 9000000000000000000)
    (h1 : ∀ st', Rep own pb st' N M → Fr own own st st' → K (.tuple #[.int .i64 0, .int .i64 5]) st')
    (h2 : (m = [] ∨ pm.row.length < 64) → ∀ own' st', Rep own' pb st' N { M with pipes := aset M.pipes nm { pm with row := pm.row ++ m.take (64 - pm.row.length) } } → Fr own own' st st' → K (.tuple #[.int .i64 (min m.length (64 - pm.row.length) : Nat), .int .i64 0]) st') :
    callK (callO T0 orc fns 100000 (n + 2)) 9 [.pointer (some ⟨N, 0, none⟩), .int .i64 id, w] st K := by
  obtain ⟨es, c, j, v, q1, q2, q3, q4, e, e1, e2, e3⟩ := hR.find hg
  subst e1
  obtain ⟨ps, pc, p1, p2, p3⟩ := hR.pip
  rcases p3.find key_str nm 0 with ⟨_, k⟩ | ⟨j', pv, a, k1, k2, k3⟩
  · rw [hpm] at k; cases k
  · rw [hpm] at k2
    cases k2
    rw [Nat.zero_add] at k1
    obtain ⟨u, r1, r2, r3, r4, r5, r6⟩ := k3
    subst r1
    have hen : e < st.next := hR.fresh e (by rw [e2]; exact fun h => by cases h)
    have hpn : pb nm < st.next := hR.fresh _ (by rw [r2]; exact fun h => by cases h)
    refine wPipe n hR.str q1 q4 e3 r3 (.inl hrd) r4 hw r6 hm (hR.lt 0 (by omega)) (hR.lt 4 (by omega)) hen hpn (r5.le hR.fresh (fun h => by cases h)) (r5.ne (by rw [r2]; exact fun h => by cases h)) hwn.2 (fun _ _ s2 a1 a2 => ?_) (fun c1 v' s2 a1 a2 a3 a4 a5 => ?_)
    · have fin := hR.more a2 a1
      exact h1 s2 fin.1 fin.2
    · obtain ⟨l1, l2, l3⟩ := lab1 (own := own) (o := .pv nm) (v' := v') hR.fresh a3 r5 (fun h => by cases h) a2
      have fin := hR.piped (own' := lab own (ow v') (.pv nm)) (pm' := { pm with row := pm.row ++ m.take (64 - pm.row.length) }) p1 p2 p3 k1 (fun i i1 i2 i3 => a4 i (fun h => i3 (r5.is h)) (fun h => i2 (h ▸ r2)) i1) a3 l1 l2 l3
        ⟨v', rfl, by rw [l1 _ (by rw [r2]; exact fun h => by cases h), r2], a5, a1, OwV.at _ _ _, by simp only [List.length_append, List.length_take]; omega⟩ (hR.ok.setRow hpm _)
      refine h2 ?_ _ s2 fin.1 fin.2
      rcases c1 with c1 | c1
      · exact .inl (List.eq_nil_of_length_eq_zero c1)
      · exact .inr c1

/-- a handle is gone -/
theorem Rep.closed (hR : Rep own pb st N M) {id : Int} {es : List (Value × Value × Nat)} {hc j : Nat} {v : Value} (he : st.get (N + 4) = some (.map es hc)) (hst : Stamps es hc) (hmap : MapOk (Value.int .i64) (HndR own pb st) es M.hnd) (hfv : findV .int (.int .i64 id) es 0 = some (some (j, v))) :
    Rep own pb (st.put (N + 4) (some (.map (es.eraseIdx j) hc))) N { M with hnd := adel M.hnd id } ∧ Fr own own st (st.put (N + 4) (some (.map (es.eraseIdx j) hc))) := by
  have same : ∀ i, i ≠ N + 4 → (st.put (N + 4) (some (.map (es.eraseIdx j) hc))).get i = st.get i := fun i hi => get_put_ne _ _ _ _ (fun e => hi e.symm)
  have nc : ∀ i, own i ≠ .core → i ≠ N + 4 := fun i hi e => hi (by rw [e]; exact hR.core _ (by omega) (by omega))
  obtain ⟨fes, fc, f1, f2, f3⟩ := hR.fil
  obtain ⟨pes, pc, p1, p2, p3⟩ := hR.pip
  obtain ⟨aes, ac, a1, a2, a3⟩ := hR.asg
  refine ⟨{
    n0 := hR.n0
    mx := ?_
    str := by show St.get _ N = _; rw [same N (by omega)]; exact hR.str
    fil := ⟨fes, fc, (same _ (by omega)).trans f1, f2, f3.mono fun k a v _ hr => hr.keep (fun i hi => same i (nc i (by rw [hi]; exact fun e => by cases e))) fun i hi => hi⟩
    pip := ⟨pes, pc, (same _ (by omega)).trans p1, p2, p3.mono fun k a v _ hr => hr.keep (fun i hi => same i (nc i (by rcases hi with hi | hi <;> rw [hi] <;> exact fun e => by cases e))) (fun i hi => hi) (fun i hi => hi) rfl⟩
    asg := ⟨aes, ac, (same _ (by omega)).trans a1, a2, a3⟩
    hnd := ⟨es.eraseIdx j, hc, get_put_same _ _ _, hst.erase j, hmap.erase key_int (i := 0) (v := v) hR.ok.nh (by rw [Nat.zero_add]; exact hfv) fun k a v _ _ hr => hr.keep (fun i hi => same i (nc i (by rcases hi with hi | hi <;> rw [hi] <;> exact fun e => by cases e))) (fun i hi => hi) (fun i hi => hi) (fun _ _ _ => rfl)⟩
    core := hR.core
    fresh := hR.fresh
    zero := hR.zero
    ok := hR.ok.delH id }, Nat.le_refl _, fun i _ hi => same i (nc i (by rw [hi]; exact fun e => by cases e)), fun _ _ h => h⟩
  have : (st.put (N + 4) (some (.map (es.eraseIdx j) hc))).get 0 = st.get 0 := same 0 (by omega)
  unfold hasMax
  rw [this]
  exact hR.mx

/-- a file's new content -/
theorem Rep.filed (hR : Rep own pb st N M) {nm : ByteArray} {bs : List UInt8} {v : Value} {id : Int} (hg : Gro st v bs) (ho : OwV own (.hv id) v) (hid : ∀ x, (id, x) ∉ M.hnd) (hl : bs.length ≤ 20000)
    {es es' : List (Value × Value × Nat)} {c c' : Nat} (he : st.get (N + 1) = some (.map es c)) (hst' : Stamps es' c') (hmap' : ∀ {R' : ByteArray → List UInt8 → Value → Prop}, R' nm bs v → (∀ k a v, k ≠ nm → (k, a) ∈ M.files → FileR own st k a v → R' k a v) → MapOk Value.string R' es' (aset M.files nm bs)) :
    Rep (lab own (ow v) (.f nm)) pb (st.put (N + 1) (some (.map es' c'))) N { M with files := aset M.files nm bs } ∧ Fr own (lab own (ow v) (.f nm)) st (st.put (N + 1) (some (.map es' c'))) := by
  have same : ∀ i, i ≠ N + 1 → (st.put (N + 1) (some (.map es' c'))).get i = st.get i := fun i hi => get_put_ne _ _ _ _ (fun e => hi e.symm)
  have nc : ∀ i, own i ≠ .core → i ≠ N + 1 := fun i hi e => hi (by rw [e]; exact hR.core _ (by omega) (by omega))
  have kp : ∀ {i : Nat} {o : Own}, o ≠ .hv id → own i = o → lab own (ow v) (.f nm) i = o := fun {i o} h1 h2 => by
    simp only [lab]
    split
    · rename_i e; exact (h1 (h2 ▸ ho.is e)).elim
    · exact h2
  obtain ⟨pes, pc, p1, p2, p3⟩ := hR.pip
  obtain ⟨aes, ac, a1, a2, a3⟩ := hR.asg
  obtain ⟨hes, hc, h1, h2, h3⟩ := hR.hnd
  refine ⟨{
    n0 := hR.n0
    mx := ?_
    str := by show St.get _ N = _; rw [same N (by omega)]; exact hR.str
    fil := ⟨es', c', get_put_same _ _ _, hst', hmap' ⟨hg.keep fun i hi => same i (nc i (by rw [ho.is hi]; exact fun e => by cases e)), OwV.at _ _ _, hl⟩ fun k a v' _ _ hr => hr.keep (fun i hi => same i (nc i (by rw [hi]; exact fun e => by cases e))) fun i hi => kp (fun e => by cases e) hi⟩
    pip := ⟨pes, pc, (same _ (by omega)).trans p1, p2, p3.mono fun k a v _ hr => hr.keep (fun i hi => same i (nc i (by rcases hi with hi | hi <;> rw [hi] <;> exact fun e => by cases e))) (fun i hi => kp (fun e => by cases e) hi) (fun i hi => kp (fun e => by cases e) hi) rfl⟩
    asg := ⟨aes, ac, (same _ (by omega)).trans a1, a2, a3⟩
    hnd := ⟨hes, hc, (same _ (by omega)).trans h1, h2, h3.mono fun k a v hm hr => hr.keep (fun i hi => same i (nc i (by rcases hi with hi | hi <;> rw [hi] <;> exact fun e => by cases e))) (fun i hi => kp (fun e => by cases e) hi) (fun i hi => kp (fun e => by cases e; exact hid _ hm) hi) (fun _ _ _ => rfl)⟩
    core := fun i i1 i2 => kp (fun e => by cases e) (hR.core i i1 i2)
    fresh := fun i hi => ?_
    zero := kp (fun e => by cases e) hR.zero
    ok := hR.ok.setF nm bs }, Nat.le_refl _, fun i _ hi => same i (nc i (by rw [hi]; exact fun e => by cases e)), fun i _ hi => kp (fun e => by cases e) hi⟩
  · have : (st.put (N + 1) (some (.map es' c'))).get 0 = st.get 0 := same 0 (by omega)
    unfold hasMax
    rw [this]
    exact hR.mx
  · by_cases e : i + 1 = ow v
    · exact hR.fresh i (by rw [ho.is e]; exact fun e => by cases e)
    · simp only [lab] at hi
      rw [if_neg e] at hi
      exact hR.fresh i hi
end
end Go.Proofs.YtocofoiijfofaaaGreatDoor
