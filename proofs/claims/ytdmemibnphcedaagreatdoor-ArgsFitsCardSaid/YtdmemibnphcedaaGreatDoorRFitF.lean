/-
  The program's give and rest.
-/
import Derived.Test.YtdmemibnphcedaaGreatDoorRFitE
set_option linter.unusedSimpArgs false
set_option linter.unusedVariables false
set_option maxRecDepth 10000
set_option linter.unusedSectionVars false
namespace Go.Proofs.YtdmemibnphcedaaGreatDoor
open Go.Am
attribute [local irreducible] callO wopK ropK popK opK grpsE listE sx Runs

theorem Frm.err {st s : St} (h : Frm st s) (h0 : 2 < st.next) (hm : hasErr st = true) : hasErr s = true := by
  unfold hasErr at hm ⊢
  rw [h.old _ h0]
  exact hm

theorem AgR.okv {ok : Nat → Prop} {g : Bool} {st : St} {v : Value} {ns : List ByteArray} {cs : List Cl} (h : AgR ok g st v ns cs) : (ow v = 0 ∨ ok (ow v)) ∧ ow v ≤ st.next := by
  obtain ⟨es, vf, h1, h2, h3, _⟩ := h
  exact ⟨h2, h3⟩

theorem GroK.ceq {esz n : Nat} {st : St} {v : Value} {cs : List Value} (h : GroK esz st v cs n) : cellEq v v = true := by
  rcases h with ⟨h1, _⟩ | ⟨b, cap, h1, _⟩ <;> subst h1 <;> exact one_eqSlice _ _ _
theorem AgR.ceq {ok : Nat → Prop} {g : Bool} {st : St} {v : Value} {ns : List ByteArray} {cs : List Cl} (h : AgR ok g st v ns cs) : cellEq v v = true := by
  obtain ⟨es, vf, h1, _⟩ := h
  exact h1.ceq
/-- a cell is read again, and is as it was -/
theorem again {st : St} {b o : Nat} {v : Value} (hl : ∀ K : Value → Prop, ropK .load1 [.pointer (some ⟨b, o, none⟩)] st K = K v) (hc : cellEq v v = true) (W : Prop) : (getK (st.get b) fun ob => rowK ob fun cs _ _ => nthK cs o fun u => cellEq u v = true ∧ W) = W := by
  have := hl fun u => cellEq u v = true ∧ W
  rw [rk_load1] at this
  rw [this, hc]
  simp

/-- a number that is none -/
def BadNum (l : List IM) (cs : List Cl) : Prop := ∃ k v, k < l.length ∧ (mkAt l k).n = true ∧ v ∈ (clAt cs k).vals ∧ numA v.data.toList = none
def numOk (x : Mk) (s : ByteArray) : Bool := !x.n || (numA s.data.toList).isSome

section
variable {st : St} {K : Value → St → Prop}
theorem kNumber (n : Nat) (s : ByteArray) (hs : s.size ≤ 1000000) (he : hasErr st = true) (h : K (numVal (numA s.data.toList)) st) : callK (callO T0 orc fns 100000 n) 24 [.string s] st K := by
  rw [callO_none (by rfl)]
  have e : orc 24 [.string s] st = .ret (numVal (numA s.data.toList), st) := by
    rw [orc_eq (by decide)]
    simp [orc1, hs, numK, he]
  exact (propext (callK_ret (K := K) e)).mpr h
theorem kTrimR (n : Nat) (s : ByteArray) (hs : s.size ≤ 4294967280) (h : K (.string (bs (trimE s.data.toList))) st) : callK (callO T0 orc fns 100000 n) 97 [.string s, .string ⟨#[32]⟩] st K := by
  rw [callO_none (by rfl)]
  have e : orc 97 [.string s, .string ⟨#[32]⟩] st = .ret (.string (bs (trimE s.data.toList)), st) := by
    rw [orc_eq (by decide)]
    simp [orc1, hs]
    rfl
  exact (propext (callK_ret (K := K) e)).mpr h

theorem mkAt_lt {l : List IM} {k : Nat} (h : k < l.length) : mkAt l k = l[k].mks := by
  rw [mkAt, List.getD_eq_getElem?_getD, List.getElem?_eq_getElem h, Option.getD_some]
theorem numVal_some (v : Int) : numVal (some v) = .tuple #[.int .i64 v, .int .i64 0] := rfl
theorem numVal_none : numVal none = .tuple #[.int .i64 0, .int .i64 250] := rfl

set_option maxHeartbeats 2000000 in
theorem kGive (n : Nat) {s0 : St} {bf p k : Nat} {lv : Value} {s : ByteArray} {l : List IM} {cs : List Cl} (w : ByteArray) (hF : FtR s0 st bf lv s l p cs) (hk : k < l.length) (hw : w.size ≤ 1000000) (h2 : 2 < s0.next) (he : hasErr s0 = true) (hvl : (clAt cs k).vals.length ≤ 90000)
    (h0 : ((clAt cs k).set = true ∧ (mkAt l k).m = false) ∨ numOk (mkAt l k) w = false → ∀ st', Frm s0 st' → K (.bool false) st')
    (h1 : ¬ ((clAt cs k).set = true ∧ (mkAt l k).m = false) → numOk (mkAt l k) w = true → ∀ st', FtR s0 st' bf lv s l p (upd' cs k (Cl.push w)) → K (.bool true) st') :
    callK (callO T0 orc fns 100000 (n + 1)) 61 [.pointer (some ⟨bf, 0, none⟩), .int .i64 (k : Nat), .string w] st K := by
  refine fn_runs (fn := g61) ?_ ?_ ?_
  · rfl
  · rfl
  unfold g61
  rw [mkAt_lt hk] at h0 h1
  obtain ⟨ov0, nv0, hbx0⟩ := hF.box
  obtain ⟨bb, nv, a1, a2, a3, a4, a5, a6, a7⟩ := hF.its.at hk
  obtain ⟨s4, st7, hb4, n4, F4⟩ := itBox st l[k].mks a5
  have hF4 := hF.keep F4
  have hcl := hF.len
  obtain ⟨ov, bn, g, q1, q2, q3, q4, q5, q6⟩ := hF4.body
  have hbx : s4.get bf = some (.row [lv, .string s, .int .i64 (p : Nat), ov, .slice (some ⟨bn, 0, none⟩) l.length l.length] 0 false) := q1
  obtain ⟨b, vv0, o1, o2, o3, o4, o5, o6, o7, o8, o9⟩ := q2.at (j := k) (by omega)
  obtain ⟨okv, onx⟩ := q2.okv
  have okb : s0.next + 1 ≤ b + 1 ∧ b + 1 ≠ bf + 1 ∧ b + 1 ≠ bn + 1 := by
    rcases okv with e | e
    · omega
    · rw [o1] at e; exact e
  have e4 := hF4.frm.err h2 he
  have hF4f := hF4.frm
  obtain ⟨s5, st1, q25, n5, f5⟩ := q2.put_set (j := k) (by omega) (fun c => ⟨c.vals, true, c.nm⟩) (fun c => ⟨rfl, rfl⟩) o1
  have hbx5 : s5.get bf = some (.row [lv, .string s, .int .i64 (p : Nat), ov, .slice (some ⟨bn, 0, none⟩) l.length l.length] 0 false) := (f5 _ (by omega)).trans hbx
  obtain ⟨b', vv, y1, y2, y3, y4, y5, y6, y7, y8, y9⟩ := q25.at (j := k) (by rw [upd_len]; omega)
  obtain rfl : b' = b := by omega
  have hn5 : s5.next = st.next + 1 := by omega
  obtain ⟨s6, hs6⟩ : ∃ s6, s6 = s5.new (.row [.string w] 0 false) := ⟨_, rfl⟩
  have n6 : s6.next = s5.next + 1 := by rw [hs6]; rfl
  have f6 : ∀ i, i < s5.next → s6.get i = s5.get i := fun i hi => by rw [hs6]; exact get_new_ne _ _ _ (by omega)
  have hbf := hF4.bf2
  have hbf1 := hF4.bf1
  have hbb : b' < s5.next := by omega
  have hbx6 : s6.get bf = some (.row [lv, .string s, .int .i64 (p : Nat), ov, .slice (some ⟨bn, 0, none⟩) l.length l.length] 0 false) := (f6 _ (by omega)).trans hbx5
  have q26 := q25.keep (st' := s6) (by omega) fun i _ hi => f6 i hi
  have ld6 : ∀ K : Value → Prop, ropK .load1 [.pointer (some ⟨b', k * 3 + 1, none⟩)] s6 K = K vv := fun K => by
    rw [rk_load1, f6 _ hbb, ← rk_load1]; exact y5 K
  have hsb : s6.get s5.next = some (.row [.string w] 0 false) := by rw [hs6]; exact get_new_same _ _
  have hvals : (clAt (upd' cs k fun c => ⟨c.vals, true, c.nm⟩) k).vals = (clAt cs k).vals := by rw [upd_same _ _ _ (by omega)]
  rw [hvals] at y7
  -- the value is laid on
  have app : ∀ (W : Value → St → Prop), (∀ v' s7 s8, (∀ W' : Value → St → Prop, wopK (.store 1) [.pointer (some ⟨b', k * 3 + 1, none⟩), v'] s7 W' = W' undef s8) → s7.get bf = some (.row [lv, .string s, .int .i64 (p : Nat), ov, .slice (some ⟨bn, 0, none⟩) l.length l.length] 0 false) → FtR s0 s8 bf lv s l p (upd' cs k (Cl.push w)) → W v' s7) →
      wopK (.append 1 16) [vv, .slice (some ⟨s5.next, 0, none⟩) 1 1] s6 W := fun W hW => by
    refine appendK ((y7.2.2 rfl).keep fun i hi => f6 i (by omega)) hsb rfl (by decide) rfl (by omega) (by omega) fun s7 k1 k2 k3 => ?_
    have ok8 : ow vv = 0 ∨ (s0.next + 1 ≤ ow vv ∧ ow vv ≠ bf + 1 ∧ ow vv ≠ bn + 1) := y8.imp id fun h => h.1
    have hvl7 : VlR true s7 (.slice (some ⟨s6.next, 0, none⟩) ((clAt cs k).vals.length + 1) ((clAt cs k).vals.length + 1)) ((clAt cs k).vals ++ [w]) := by
      refine GroK.vl ?_
      rw [List.map_append, List.length_append]
      exact k1
    obtain ⟨s8, z1, z2, z3, z4⟩ := q26.put_vals (j := k) (by rw [upd_len]; omega) (fun c => ⟨(clAt cs k).vals ++ [w], c.set, c.nm⟩) (fun c => ⟨rfl, rfl⟩) o1 (fun h => h) (by omega) ld6 k3 hvl7 (by show s0.next + 1 ≤ s6.next + 1 ∧ s6.next + 1 ≠ bf + 1 ∧ s6.next + 1 ≠ bn + 1; omega) (by show s6.next < s6.next + 1; omega) (by show s6.next + 1 ≤ s7.next; omega)
    have fr7 : ∀ i, i + 1 ≠ ow vv → i < s5.next → s7.get i = s5.get i := fun i hi hl => (k3 i hi (by omega)).trans (f6 i hl)
    have fr8 : ∀ i, i + 1 ≠ ow vv → i ≠ b' → i < s5.next → s8.get i = s4.get i := fun i h1 h2 h3 => (z4 i h2).trans ((fr7 i h1 h3).trans (f5 i h2))
    refine hW _ s7 s8 z1 ((fr7 _ (by omega) (by omega)).trans hbx5) ⟨⟨by have := hF4f.nx; omega, fun i hi => (fr8 i (by omega) (by omega) (by have := hF4f.nx; omega)).trans (hF4f.old i hi)⟩, hbf1, by omega, hF.items, by rw [upd_len]; exact hcl, ov, bn, g, (fr8 _ (by omega) (by omega) (by omega)).trans hbx, ?_, ?_, q4, by omega, q6⟩
    · rw [upd_upd _ _ _ _ (by omega)] at z2
      have e : upd' cs k (fun c => (⟨(clAt cs k).vals ++ [w], true, c.nm⟩ : Cl)) = upd' cs k (Cl.push w) := rfl
      exact z2
    · have : (upd' cs k (Cl.push w)).map (fun c => Value.bool c.nm) = cs.map (fun c => Value.bool c.nm) := by
        unfold upd'
        rw [List.map_set]
        refine List.ext_getElem? fun i => ?_
        by_cases e : k = i
        · subst e
          rw [List.getElem?_set_self (by rw [List.length_map]; omega), List.getElem?_map, List.getElem?_eq_getElem (by omega)]
          simp [Cl.push, clAt, List.getD_eq_getElem?_getD, List.getElem?_eq_getElem (show k < cs.length by omega)]
        · rw [List.getElem?_set_ne e]
      rw [this]
      exact (fr8 _ (by omega) (by omega) (by omega)).trans q3
  have hce := q2.ceq
  have hs1 := again y5 (y7.2.2 rfl).ceq
  subst hs6
  have bad : ∀ st', numOk l[k].mks w = false → Frm s0 st' → K (.bool false) st' := fun st' hn hf => h0 (.inr hn) st' hf
  by_cases hA : (clAt cs k).set = true ∧ l[k].mks.m = false
  · obtain ⟨hs, hm⟩ := hA
    rw [hs] at o6
    rw [hm] at hb4
    simp (disch := omega) only [↓sxA, ↓wk_store, sxB, sxP, Nat.reduceLeDiff, reduceCtorEq, Nat.reduceEqDiff, Nat.reduceAdd, Int.reduceLT, Int.reduceLE, Int.reduceEq, Nat.reduceLT, Int.reduceToNat, Int.reduceAdd, Int.reduceSub, ↓reduceIte, hbx0, ↓a1, ↓a2, ↓st7, hbx, ↓o2, ↓o6, hb4]
    exact h0 (.inl ⟨hs, hm⟩) _ hF4f
  have hB : (clAt cs k).set = false ∨ ((clAt cs k).set = true ∧ l[k].mks.m = true) := by
    cases hs : (clAt cs k).set with
    | false => exact .inl rfl
    | true =>
      cases hm : l[k].mks.m with
      | true => exact .inr ⟨rfl, rfl⟩
      | false => exact (hA ⟨hs, hm⟩).elim
  rcases hB with hs | ⟨hs, hm⟩
  all_goals
    rw [hs] at o6
    try rw [hm] at hb4
    simp (disch := omega) only [↓sxA, ↓wk_store, sxB, sxP, Nat.reduceLeDiff, reduceCtorEq, Nat.reduceEqDiff, Nat.reduceAdd, Int.reduceLT, Int.reduceLE, Int.reduceEq, Nat.reduceLT, Int.reduceToNat, Int.reduceAdd, Int.reduceSub, ↓reduceIte, hbx0, ↓a1, ↓a2, ↓st7, hbx, ↓o2, ↓o6, hb4]
    refine kNumber n w hw e4 ?_
    have good : numOk l[k].mks w = true → ∀ st', FtR s0 st' bf lv s l p (upd' cs k (Cl.push w)) → K (.bool true) st' := fun hn st' hf => h1 hA hn st' hf
    unfold numOk at good bad
    cases hnum : numA w.data.toList with
    | some v =>
      rw [numVal_some]
      rw [hnum] at good
      simp only [Option.isSome_some, Bool.or_true, forall_const] at good
      cases hn : l[k].mks.n
      all_goals
        rw [hn] at hb4
        simp (disch := omega) only [↓sxA, ↓wk_store, sxB, sxP, Nat.reduceLeDiff, reduceCtorEq, Nat.reduceEqDiff, Nat.reduceAdd, Int.reduceLT, Int.reduceLE, Int.reduceEq, Nat.reduceLT, Int.reduceToNat, Int.reduceAdd, Int.reduceSub, ↓reduceIte, hbx, hb4, ↓o2, ↓st1, hbx5, ↓y2, ↓y5, hbx6, ↓ld6]
        refine ⟨hce, hce, (hs1 _).mpr ?_⟩
        simp (disch := omega) only [↓sxA, ↓wk_store, sxB, sxP, Nat.reduceLeDiff, reduceCtorEq, Nat.reduceEqDiff, Nat.reduceAdd, Int.reduceLT, Int.reduceLE, Int.reduceEq, Nat.reduceLT, Int.reduceToNat, Int.reduceAdd, Int.reduceSub, ↓reduceIte]
        refine app _ fun v' s7 s8 z1 z2 z3 => ?_
        simp (disch := omega) only [↓sxA, ↓wk_store, sxB, sxP, Nat.reduceLeDiff, reduceCtorEq, Nat.reduceEqDiff, Nat.reduceAdd, Int.reduceLT, Int.reduceLE, Int.reduceEq, Nat.reduceLT, Int.reduceToNat, Int.reduceAdd, Int.reduceSub, ↓reduceIte, ↓z1, z2, hce, ↓o2]
        exact good _ z3
    | none =>
      rw [numVal_none]
      rw [hnum] at good bad
      simp only [Option.isSome_none, Bool.or_false] at good bad
      cases hn : l[k].mks.n with
      | true =>
        rw [hn] at hb4 bad
        simp (disch := omega) only [↓sxA, ↓wk_store, sxB, sxP, Nat.reduceLeDiff, reduceCtorEq, Nat.reduceEqDiff, Nat.reduceAdd, Int.reduceLT, Int.reduceLE, Int.reduceEq, Nat.reduceLT, Int.reduceToNat, Int.reduceAdd, Int.reduceSub, ↓reduceIte, hbx, hb4]
        exact bad _ rfl hF4f
      | false =>
        rw [hn] at hb4 good
        simp (disch := omega) only [↓sxA, ↓wk_store, sxB, sxP, Nat.reduceLeDiff, reduceCtorEq, Nat.reduceEqDiff, Nat.reduceAdd, Int.reduceLT, Int.reduceLE, Int.reduceEq, Nat.reduceLT, Int.reduceToNat, Int.reduceAdd, Int.reduceSub, ↓reduceIte, hbx, hb4, ↓o2, ↓st1, hbx5, ↓y2, ↓y5, hbx6, ↓ld6]
        refine ⟨hce, hce, (hs1 _).mpr ?_⟩
        simp (disch := omega) only [↓sxA, ↓wk_store, sxB, sxP, Nat.reduceLeDiff, reduceCtorEq, Nat.reduceEqDiff, Nat.reduceAdd, Int.reduceLT, Int.reduceLE, Int.reduceEq, Nat.reduceLT, Int.reduceToNat, Int.reduceAdd, Int.reduceSub, ↓reduceIte]
        refine app _ fun v' s7 s8 z1 z2 z3 => ?_
        simp (disch := omega) only [↓sxA, ↓wk_store, sxB, sxP, Nat.reduceLeDiff, reduceCtorEq, Nat.reduceEqDiff, Nat.reduceAdd, Int.reduceLT, Int.reduceLE, Int.reduceEq, Nat.reduceLT, Int.reduceToNat, Int.reduceAdd, Int.reduceSub, ↓reduceIte, ↓z1, z2, hce, ↓o2]
        exact good rfl _ z3

theorem FtR.move {s0 s1 : St} {bf p p' : Nat} {lv ov nv : Value} {s : ByteArray} {l : List IM} {cs : List Cl} (hF : FtR s0 s1 bf lv s l p cs) (hb : s1.get bf = some (.row [lv, .string s, .int .i64 (p : Nat), ov, nv] 0 false)) : FtR s0 (s1.put bf (some (.row [lv, .string s, .int .i64 (p' : Nat), ov, nv] 0 false))) bf lv s l p' cs := by
  obtain ⟨ov', bn, g, b1, b2, b3, b4, b5, b6⟩ := hF.body
  rw [b1] at hb
  cases hb
  refine ⟨hF.frm.put _ hF.bf1 _, hF.bf1, hF.bf2, hF.items, hF.len, ov, bn, g, get_put_same _ _ _, b2.keep (Nat.le_refl _) fun i hi _ => get_put_ne _ _ _ _ (by omega), (get_put_ne _ _ _ _ (Ne.symm b6)).trans b3, b4, b5, b6⟩

theorem push_one {cs : List Cl} {k : Nat} {w : ByteArray} (h : (clAt cs k).vals = []) : upd' cs k (Cl.push w) = upd' cs k (Cl.one w) := by
  unfold upd' Cl.push Cl.one
  rw [h]
  rfl

theorem trimE_le (l : List UInt8) : (trimE l).length ≤ l.length := by
  unfold trimE
  rw [List.length_reverse]
  have := (List.dropWhile_sublist (· == (32 : UInt8)) (l := l.reverse)).length_le
  rw [List.length_reverse] at this
  exact this

set_option maxHeartbeats 2000000 in
theorem kRest (n : Nat) {s0 : St} {bf p k q : Nat} {lv : Value} {s : ByteArray} {l : List IM} {cs : List Cl} (hF : FtR s0 st bf lv s l p cs) (hk : k < l.length) (hs : s.size ≤ 90000) (hq : q ≤ s.size) (h2 : 2 < s0.next) (he : hasErr s0 = true) (hi : (clAt cs k).set = false → (clAt cs k).vals = []) (hvl : (clAt cs k).vals.length ≤ 90000)
    (hfn : (mkAt l k).n = false) (hfm : (mkAt l k).m = false)
    (h0 : trimE (s.data.toList.drop q) = [] ∨ (clAt cs k).set = true → ∀ st', Frm s0 st' → K (.bool false) st')
    (h1 : trimE (s.data.toList.drop q) ≠ [] → (clAt cs k).set = false → ∀ st', FtR s0 st' bf lv s l s.size (upd' cs k (Cl.one (bs (trimE (s.data.toList.drop q))))) → K (.bool true) st') :
    callK (callO T0 orc fns 100000 (n + 2)) 59 [.pointer (some ⟨bf, 0, none⟩), .int .i64 (k : Nat), .int .i64 (q : Nat)] st K := by
  refine fn_runs (fn := g59) ?_ ?_ ?_
  · rfl
  · rfl
  unfold g59
  obtain ⟨ov, nv, hbx⟩ := hF.box
  have hsz := size_list s
  have hext : s.extract q s.size = bs (s.data.toList.drop q) := by
    rw [extract_bs, List.take_of_length_le (by rw [List.length_drop]; omega)]
  have hbsz : (bs (s.data.toList.drop q)).size ≤ 90000 := by rw [bs_size, List.length_drop]; omega
  have hT : (bs (trimE (s.data.toList.drop q))).size ≤ 1000000 := by
    have := trimE_le (s.data.toList.drop q)
    rw [bs_size]
    rw [List.length_drop] at this
    omega
  have hmv := hF.move (p' := s.size) hbx
  simp (disch := omega) only [↓sxA, ↓wk_store, sxB, sxP, Nat.reduceLeDiff, reduceCtorEq, Nat.reduceEqDiff, Nat.reduceAdd, Int.reduceLT, Int.reduceLE, Int.reduceEq, Nat.reduceLT, Int.reduceToNat, Int.reduceAdd, Int.reduceSub, ↓reduceIte, hbx, Int.toNat_natCast]
  try rw [hext]
  refine ⟨⟨by omega, by omega⟩, ?_⟩
  refine kTrimR (n + 1) (bs (s.data.toList.drop q)) (by omega) ?_
  rw [bs_list]
  generalize trimE (s.data.toList.drop q) = T at h0 h1 hT
  by_cases hT0 : T = []
  · have e1 : (bs T = ByteArray.empty) = True := eq_true (bs_eq_empty.2 hT0)
    simp (disch := omega) only [↓sxA, ↓wk_store, sxB, sxP, Nat.reduceLeDiff, reduceCtorEq, Nat.reduceEqDiff, Nat.reduceAdd, Int.reduceLT, Int.reduceLE, Int.reduceEq, Nat.reduceLT, Int.reduceToNat, Int.reduceAdd, Int.reduceSub, ↓reduceIte, hbx, e1]
    exact h0 (.inl hT0) _ hmv.frm
  · have e1 : (bs T = ByteArray.empty) = False := eq_false fun e => hT0 (bs_eq_empty.1 e)
    simp (disch := omega) only [↓sxA, ↓wk_store, sxB, sxP, Nat.reduceLeDiff, reduceCtorEq, Nat.reduceEqDiff, Nat.reduceAdd, Int.reduceLT, Int.reduceLE, Int.reduceEq, Nat.reduceLT, Int.reduceToNat, Int.reduceAdd, Int.reduceSub, ↓reduceIte, hbx, e1]
    refine kGive n (bs T) hmv hk hT h2 he hvl (fun hc st' hf => ?_) (fun hc hn st' hf => ?_)
    · simp (disch := omega) only [↓sxA, ↓wk_store, sxB, sxP, Nat.reduceLeDiff, reduceCtorEq, Nat.reduceEqDiff, Nat.reduceAdd, Int.reduceLT, Int.reduceLE, Int.reduceEq, Nat.reduceLT, Int.reduceToNat, Int.reduceAdd, Int.reduceSub, ↓reduceIte]
      rcases hc with hc | hc
      · exact h0 (.inr hc.1) _ hf
      · rw [numOk, hfn] at hc
        cases hc
    · simp (disch := omega) only [↓sxA, ↓wk_store, sxB, sxP, Nat.reduceLeDiff, reduceCtorEq, Nat.reduceEqDiff, Nat.reduceAdd, Int.reduceLT, Int.reduceLE, Int.reduceEq, Nat.reduceLT, Int.reduceToNat, Int.reduceAdd, Int.reduceSub, ↓reduceIte]
      have hset : (clAt cs k).set = false := by
        cases hh : (clAt cs k).set with
        | false => rfl
        | true => exact (hc ⟨hh, hfm⟩).elim
      rw [push_one (hi hset)] at hf
      exact h1 hT0 hset _ hf
end
end Go.Proofs.YtdmemibnphcedaaGreatDoor
