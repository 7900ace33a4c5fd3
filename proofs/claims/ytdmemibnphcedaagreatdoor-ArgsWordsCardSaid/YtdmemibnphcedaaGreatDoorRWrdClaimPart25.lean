/-
  The program's find and free.
  The program's give and rest.
  The program's name: what stands behind an item's name.
  The program's name, walked.
  The program's step: the next word.
  The program's Fit.
  The chapter's small functions: lower, known, rest, open, Number.
  The chapter's next.
-/
import Derived.Test.YtdmemibnphcedaaGreatDoorRWrdClaimPart24
section
set_option linter.unusedSimpArgs false
set_option linter.unusedVariables false
set_option maxRecDepth 10000
set_option linter.unusedSectionVars false
namespace Go.Proofs.YtdmemibnphcedaaGreatDoor
open Go.Am
attribute [local irreducible] callO wopK ropK popK opK grpsE listE sx Runs

def nm0 (x : IM) : ByteArray := x.names.headD .empty

/-- the fitter: where its parts are -/
structure FtR (s0 st : St) (bf : Nat) (lv : Value) (s : ByteArray) (l : List IM) (p : Nat) (cs : List Cl) : Prop where
  frm : Frm s0 st
  bf1 : s0.next ≤ bf
  bf2 : bf < st.next
  items : ItR 1 s0 lv l
  len : cs.length = l.length
  body : ∃ ov bn g, st.get bf = some (.row [lv, .string s, .int .i64 (p : Nat), ov, .slice (some ⟨bn, 0, none⟩) l.length l.length] 0 false) ∧ AgR (fun n => s0.next + 1 ≤ n ∧ n ≠ bf + 1 ∧ n ≠ bn + 1) true st ov (l.map nm0) cs ∧
    st.get bn = some (.row (cs.map fun c => .bool c.nm) g false) ∧ s0.next ≤ bn ∧ bn < st.next ∧ bn ≠ bf

section
variable {s0 st st' : St} {bf p : Nat} {lv : Value} {s : ByteArray} {l : List IM} {cs : List Cl}
theorem FtR.keep (h : FtR s0 st bf lv s l p cs) (k : Frm st st') : FtR s0 st' bf lv s l p cs := by
  obtain ⟨ov, bn, g, b1, b2, b3, b4, b5, b6⟩ := h.body
  refine ⟨h.frm.trans k, h.bf1, Nat.lt_of_lt_of_le h.bf2 k.nx, h.items, h.len, ov, bn, g, (k.old _ h.bf2).trans b1, b2.keep k.nx fun i _ hi => k.old i hi, (k.old _ b5).trans b3, b4, Nat.lt_of_lt_of_le b5 k.nx, b6⟩
theorem FtR.its (h : FtR s0 st bf lv s l p cs) : ItR 1 st lv l := h.items.keep h.frm.nx fun i _ hi => h.frm.old i hi
theorem FtR.box (h : FtR s0 st bf lv s l p cs) : ∃ ov nv, st.get bf = some (.row [lv, .string s, .int .i64 (p : Nat), ov, nv] 0 false) := by
  obtain ⟨ov, bn, g, b1, _⟩ := h.body
  exact ⟨_, _, b1⟩
end

section
variable {st : St} {v : Value} {K : Value → St → Prop} {xs : List ByteArray} {x : ByteArray}

end
end Go.Proofs.YtdmemibnphcedaaGreatDoor
end
section
set_option linter.unusedSimpArgs false
set_option linter.unusedVariables false
set_option maxRecDepth 10000
set_option linter.unusedSectionVars false
namespace Go.Proofs.YtdmemibnphcedaaGreatDoor
open Go.Am
attribute [local irreducible] callO wopK ropK popK opK grpsE listE sx Runs

theorem Frm.err {st s : St} (h : Frm st s) (h0 : 2 < st.next) (hm : hasErr st = true) : hasErr s = true := by
  unfold hasErr at hm ⊢
  rw [h.old _ h0]
  exact hm

theorem AgR.okv {ok : Nat → Prop} {g : Bool} {st : St} {v : Value} {ns : List ByteArray} {cs : List Cl} (h : AgR ok g st v ns cs) : (ow v = 0 ∨ ok (ow v)) ∧ ow v ≤ st.next := by
  obtain ⟨es, vf, h1, h2, h3, _⟩ := h
  exact ⟨h2, h3⟩

theorem GroK.ceq {esz n : Nat} {st : St} {v : Value} {cs : List Value} (h : GroK esz st v cs n) : cellEq v v = true := by
  rcases h with ⟨h1, _⟩ | ⟨b, cap, h1, _⟩ <;> subst h1 <;> exact one_eqSlice _ _ _
theorem AgR.ceq {ok : Nat → Prop} {g : Bool} {st : St} {v : Value} {ns : List ByteArray} {cs : List Cl} (h : AgR ok g st v ns cs) : cellEq v v = true := by
  obtain ⟨es, vf, h1, _⟩ := h
  exact h1.ceq
/-- a cell is read again, and is as it was -/
theorem again {st : St} {b o : Nat} {v : Value} (hl : ∀ K : Value → Prop, ropK .load1 [.pointer (some ⟨b, o, none⟩)] st K = K v) (hc : cellEq v v = true) (W : Prop) : (getK (st.get b) fun ob => rowK ob fun cs _ _ => nthK cs o fun u => cellEq u v = true ∧ W) = W := by
  have := hl fun u => cellEq u v = true ∧ W
  rw [rk_load1] at this
  rw [this, hc]
  simp

section
variable {st : St} {K : Value → St → Prop}
theorem kNumber (n : Nat) (s : ByteArray) (hs : s.size ≤ 1000000) (he : hasErr st = true) (h : K (numVal (numA s.data.toList)) st) : callK (callO T0 orc fns 100000 n) 24 [.string s] st K := by
  rw [callO_none (by rfl)]
  have e : orc 24 [.string s] st = .ret (numVal (numA s.data.toList), st) := by
    rw [orc_eq (by decide)]
    simp [orc1, hs, numK, he]
  exact (propext (callK_ret (K := K) e)).mpr h
theorem numVal_some (v : Int) : numVal (some v) = .tuple #[.int .i64 v, .int .i64 0] := rfl
theorem numVal_none : numVal none = .tuple #[.int .i64 0, .int .i64 250] := rfl

theorem FtR.move {s0 s1 : St} {bf p p' : Nat} {lv ov nv : Value} {s : ByteArray} {l : List IM} {cs : List Cl} (hF : FtR s0 s1 bf lv s l p cs) (hb : s1.get bf = some (.row [lv, .string s, .int .i64 (p : Nat), ov, nv] 0 false)) : FtR s0 (s1.put bf (some (.row [lv, .string s, .int .i64 (p' : Nat), ov, nv] 0 false))) bf lv s l p' cs := by
  obtain ⟨ov', bn, g, b1, b2, b3, b4, b5, b6⟩ := hF.body
  rw [b1] at hb
  cases hb
  refine ⟨hF.frm.put _ hF.bf1 _, hF.bf1, hF.bf2, hF.items, hF.len, ov, bn, g, get_put_same _ _ _, b2.keep (Nat.le_refl _) fun i hi _ => get_put_ne _ _ _ _ (by omega), (get_put_ne _ _ _ _ (Ne.symm b6)).trans b3, b4, b5, b6⟩

theorem trimE_le (l : List UInt8) : (trimE l).length ≤ l.length := by
  unfold trimE
  rw [List.length_reverse]
  have := (List.dropWhile_sublist (· == (32 : UInt8)) (l := l.reverse)).length_le
  rw [List.length_reverse] at this
  exact this

end
end Go.Proofs.YtdmemibnphcedaaGreatDoor
end
section
set_option linter.unusedSimpArgs false
set_option linter.unusedVariables false
set_option maxRecDepth 10000
set_option linter.unusedSectionVars false
namespace Go.Proofs.YtdmemibnphcedaaGreatDoor
open Go.Am
attribute [local irreducible] callO wopK ropK popK opK grpsE listE sx Runs

def Cl.nam (c : Cl) : Cl := ⟨c.vals, c.set, true⟩
def Cl.put (c : Cl) : Cl := ⟨c.vals, true, c.nm⟩

theorem map_upd (cs : List Cl) (k : Nat) (f : Cl → Cl) (hk : k < cs.length) : (upd' cs k f).map (fun c => Value.bool c.nm) = (cs.map fun c => Value.bool c.nm).set k (.bool (f (clAt cs k)).nm) := by
  unfold upd'
  rw [List.map_set]
theorem map_at (cs : List Cl) (k : Nat) (hk : k < cs.length) : (cs.map fun c => Value.bool c.nm)[k]? = some (.bool (clAt cs k).nm) := by
  rw [List.getElem?_map, List.getElem?_eq_getElem hk]
  simp [clAt, List.getD_eq_getElem?_getD, List.getElem?_eq_getElem hk]

section
variable {s0 st : St} {bf p k : Nat} {lv : Value} {s : ByteArray} {l : List IM} {cs : List Cl}
/-- what may be read of the fitter, and how an item is named, and set -/
theorem FtR.open (hF : FtR s0 st bf lv s l p cs) (hk : k < l.length) : ∃ ov bn b s1 s2, st.get bf = some (.row [lv, .string s, .int .i64 (p : Nat), ov, .slice (some ⟨bn, 0, none⟩) l.length l.length] 0 false) ∧
    (∀ K : Value → Prop, popK (.indexAddr 1) [.slice (some ⟨bn, 0, none⟩) l.length l.length, .int .i64 (k : Int)] K = K (.pointer (some ⟨bn, k, none⟩))) ∧ (∀ K : Value → Prop, ropK .load1 [.pointer (some ⟨bn, k, none⟩)] st K = K (.bool (clAt cs k).nm)) ∧
    (∀ K : Value → Prop, popK (.indexAddr 3) [ov, .int .i64 (k : Int)] K = K (.pointer (some ⟨b, k * 3, none⟩))) ∧ (∀ K : Value → Prop, ropK .load1 [.pointer (some ⟨b, k * 3 + 2, none⟩)] st K = K (.bool (clAt cs k).set)) ∧
    (∀ W : Value → St → Prop, wopK (.store 1) [.pointer (some ⟨bn, k, none⟩), .bool true] st W = W undef s1) ∧ FtR s0 s1 bf lv s l p (upd' cs k Cl.nam) ∧ s1.next = st.next ∧ (∀ i, i ≠ bn → s1.get i = st.get i) ∧ s0.next ≤ bn ∧ bn < st.next ∧ bn ≠ bf ∧
    (∀ W : Value → St → Prop, wopK (.store 1) [.pointer (some ⟨b, k * 3 + 2, none⟩), .bool true] st W = W undef s2) ∧ FtR s0 s2 bf lv s l p (upd' cs k Cl.put) := by
  obtain ⟨ov, bn, g, q1, q2, q3, q4, q5, q6⟩ := hF.body
  have hcl := hF.len
  obtain ⟨b, vv, o1, o2, o3, o4, o5, o6, o7, o8, o9⟩ := q2.at (j := k) (by omega)
  obtain ⟨s2, z1, z2, z3, z4⟩ := q2.put_set (j := k) (by omega) Cl.put (fun c => ⟨rfl, rfl⟩) o1
  obtain ⟨okv, onx⟩ := q2.okv
  have okb : s0.next + 1 ≤ b + 1 ∧ b + 1 ≠ bf + 1 ∧ b + 1 ≠ bn + 1 := by
    rcases okv with e | e
    · omega
    · rw [o1] at e; exact e
  have hl : k < (cs.map fun c => Value.bool c.nm).length := by rw [List.length_map]; omega
  have hF2 := hF.bf2
  have hF1 := hF.bf1
  have hfx := hF.frm.nx
  refine ⟨ov, bn, b, st.put bn (some (.row (lputs (cs.map fun c => Value.bool c.nm) k [.bool true]) g false)), s2, q1, fun K => ?_, fun K => ?_, o2, o6, fun W => ?_, ?_, rfl, fun i hi => get_put_ne _ _ _ _ (Ne.symm hi), q4, q5, q6, z1, ?_⟩
  · rw [pk_indexAddr]
    have e : (0 : Nat) + (k : Int).toNat * 1 = k := by omega
    rw [e]
    exact propext ⟨fun h => h.2, fun h => ⟨⟨by omega, by omega⟩, h⟩⟩
  · rw [rk_load1, q3]
    simp only [getK, rowK]
    exact nthK_at (map_at cs k (by omega)) K
  · rw [wk_store, q3]
    simp only [getK, rowK]
    exact propext ⟨fun h => h.2.2, fun h => ⟨rfl, ⟨by first | trivial | rfl, by omega, by rfl⟩, h⟩⟩
  · refine ⟨hF.frm.put _ q4 _, hF1, hF2, hF.items, by rw [upd_len]; exact hcl, ov, bn, g, (get_put_ne _ _ _ _ q6).trans q1, ?_, ?_, q4, q5, q6⟩
    · have h := q2.keep (st' := st.put bn (some (.row (lputs (cs.map fun c => Value.bool c.nm) k [.bool true]) g false))) (Nat.le_refl _) fun i hi _ => get_put_ne _ _ _ _ (by omega)
      obtain ⟨es, vf, h1, h2, h3, h4, h5⟩ := h
      refine ⟨es, vf, by rw [upd_len]; exact h1, h2, h3, fun j hj => ?_, fun j hj => ?_⟩
      · rw [upd_len] at hj
        obtain ⟨a1, a2, a3⟩ := h4 j hj
        refine ⟨a1, a2, ?_⟩
        by_cases e : k = j
        · subst e; rw [upd_same _ _ _ hj]; exact a3
        · rw [upd_ne _ _ _ _ e]; exact a3
      · rw [upd_len] at hj ⊢
        have e : (clAt (upd' cs k Cl.nam) j).vals = (clAt cs j).vals := by
          by_cases e : k = j
          · subst e; rw [upd_same _ _ _ hj]; rfl
          · rw [upd_ne _ _ _ _ e]
        rw [e]
        exact h5 j hj
    · rw [map_upd _ _ _ (by omega), get_put_same]
      congr 2
      refine List.ext_getElem? fun i => ?_
      rw [lput1_get _ _ _ hl]
      by_cases e : i = k
      · subst e; rw [if_pos rfl, List.getElem?_set_self hl]; rfl
      · rw [if_neg e, List.getElem?_set_ne (Ne.symm e)]
  · have hov : ∀ i, i ≠ b → s2.get i = st.get i := z4
    refine ⟨⟨by omega, fun i hi => (hov i (by omega)).trans (hF.frm.old i hi)⟩, hF1, by omega, hF.items, by rw [upd_len]; exact hcl, ov, bn, g, (hov _ (by omega)).trans q1, z2, ?_, q4, by omega, q6⟩
    rw [hov _ (by omega), q3, map_upd _ _ _ (by omega)]
    congr 2
    refine List.ext_getElem? fun i => ?_
    by_cases e : k = i
    · subst e; rw [List.getElem?_set_self hl, map_at cs k (by omega)]; rfl
    · rw [List.getElem?_set_ne e]
end

end Go.Proofs.YtdmemibnphcedaaGreatDoor
end
section
set_option linter.unusedSimpArgs false
set_option linter.unusedVariables false
set_option maxRecDepth 10000
set_option linter.unusedSectionVars false
namespace Go.Proofs.YtdmemibnphcedaaGreatDoor
open Go.Am
attribute [local irreducible] callO wopK ropK popK opK grpsE listE sx Runs

section
variable {st : St} {K : Value → St → Prop}

theorem quo_len : ∀ (l : List UInt8) (s : List UInt8) (k : Nat), quo l = some (s, k) → s.length ≤ l.length
  | [], s, k, h => by simp [quo] at h
  | [c], s, k, h => by
    simp only [quo] at h
    split at h
    · cases h; simp
    · cases h
  | c :: d :: r, s, k, h => by
    simp only [quo] at h
    split at h
    · split at h
      · cases h; simp
      · cases h
    · split at h
      · cases h
      · split at h
        · simp only [Option.map_eq_some_iff] at h
          obtain ⟨⟨s', k'⟩, h1, h2⟩ := h
          cases h2
          have := quo_len r s' k' h1
          simp; omega
        · split at h
          · simp only [Option.map_eq_some_iff] at h
            obtain ⟨⟨s', k'⟩, h1, h2⟩ := h
            cases h2
            have := quo_len r s' k' h1
            simp; omega
          · simp only [Option.map_eq_some_iff] at h
            obtain ⟨⟨s', k'⟩, h1, h2⟩ := h
            cases h2
            have := quo_len (d :: r) s' k' h1
            simp at this ⊢; omega
theorem nxt_len {L : List UInt8} {p : Nat} {w : List UInt8} {q : Bool} {fr to : Nat} (h : nxt L p = .wd w q fr to) : w.length ≤ L.length + 1 := by
  unfold nxt at h
  split at h
  · cases h
  · split at h
    · cases h; simp
    · split at h
      · split at h
        · rename_i x hx
          cases h
          have := quo_len _ x.1 x.2 hx
          rw [List.length_drop] at this
          omega
        · cases h
      · split at h
        · cases h
          rw [List.length_take, List.length_drop]
          omega
        · cases h
end
end Go.Proofs.YtdmemibnphcedaaGreatDoor
end
section
set_option linter.unusedSimpArgs false
set_option linter.unusedVariables false
set_option maxRecDepth 10000
set_option linter.unusedSectionVars false
namespace Go.Proofs.YtdmemibnphcedaaGreatDoor
open Go.Am
attribute [local irreducible] callO wopK ropK popK opK grpsE listE sx Runs

section
variable {st : St} {K : Value → St → Prop}

end
end Go.Proofs.YtdmemibnphcedaaGreatDoor
end
section
set_option linter.unusedSimpArgs false
set_option linter.unusedVariables false
set_option maxRecDepth 10000
set_option linter.unusedSectionVars false
namespace Go.Proofs.YtdmemibnphcedaaGreatDoor
open Go.Am
attribute [local irreducible] callO wopK ropK popK opK grpsE listE sx Runs

theorem AgR.one {ok : Nat → Prop} {g : Bool} {st : St} {v : Value} {ns : List ByteArray} {cs : List Cl} (h : AgR ok g st v ns cs) : oneCell v = true := by
  obtain ⟨es, vf, h1, _⟩ := h
  exact h1.one
theorem ItR.one {lo : Nat} {st : St} {v : Value} {l : List IM} (h : ItR lo st v l) : oneCell v = true := by
  obtain ⟨nvs, h1, h2, _⟩ := h
  exact h2.one
section
variable {st : St} {K : Value → St → Prop}

end
end Go.Proofs.YtdmemibnphcedaaGreatDoor
end
section
set_option linter.unusedSimpArgs false
set_option linter.unusedVariables false
set_option maxRecDepth 10000
set_option linter.unusedSectionVars false
namespace Go.Proofs.YtdmemibnphcedaaGreatDoor
open Go.Am
attribute [local irreducible] callO wopK ropK popK opK grpsE listE sx Runs

section
variable {st : St} {K : Value → St → Prop}

theorem q_subU8 (a b : Int) (h0 : 0 ≤ a - b) (h1 : a - b ≤ 255) {K : Value → Prop} : popK (.bin .sub) [.int .u8 a, .int .u8 b] K = K (.int .u8 (a - b)) := by
  rw [pk_subI]
  simp only [wrapF]
  rw [if_pos ⟨h0, h1⟩]
theorem wrap64 (a : Int) (h0 : -9223372036854775808 ≤ a) (h1 : a ≤ 9223372036854775807) : wrapF .i64 a = a := by
  simp only [wrapF]
  rw [if_pos ⟨h0, h1⟩]
theorem Cel.ceq {v : Value} {cs : List Value} (h : Cel st v cs) : cellEq v v = true := by
  rcases h with ⟨h1, _⟩ | ⟨b, o, cap, xs, g, ro, h1, _⟩ | ⟨n, h1, _⟩ <;> subst h1 <;> exact one_eqSlice _ _ _

/-- a number that stops growing -/
def sat (x : Nat) : Int := if x ≤ 2147483648 then (x : Int) else 2147483649
theorem dval_app (c : UInt8) (l : List UInt8) : ∀ a : Nat, dval a (l ++ [c]) = dval a l * 10 + (c.toNat - 48) := by
  induction l with
  | nil => intro a; rfl
  | cons x l ih => intro a; exact ih (a * 10 + (x.toNat - 48))

set_option maxHeartbeats 1000000 in
theorem kNumberR (n : Nat) (s : ByteArray) (hs : s.size ≤ 90000) (h : K (numVal (numA s.data.toList)) st) :
    callK (callO T0 orc fns 100000 (n + 1)) 25 [.string s] st K := by
  refine fn_runs (fn := g25) ?_ ?_ ?_
  · rfl
  · rfl
  unfold g25
  have hsz := size_list s
  have hcase : ∃ a : Nat, a ≤ 1 ∧ a ≤ s.size ∧ digits s.data.toList = s.data.toList.drop a ∧ ((a = 1 ∧ neg s.data.toList = true ∧ 0 < s.size ∧ s.data.toList.getD 0 0 = 45) ∨ (a = 0 ∧ neg s.data.toList = false ∧ (s.size = 0 ∨ (0 < s.size ∧ ¬ ((s.data.toList.getD 0 0).toNat : Int) = 45)))) := by
    cases hl : s.data.toList with
    | nil =>
      rw [hl] at hsz
      exact ⟨0, by decide, by omega, rfl, .inr ⟨rfl, rfl, .inl hsz⟩⟩
    | cons c r =>
      rw [hl] at hsz
      simp only [List.length_cons] at hsz
      by_cases hc : c = 45
      · subst hc
        exact ⟨1, by decide, by omega, rfl, .inl ⟨rfl, rfl, by omega, rfl⟩⟩
      · refine ⟨0, by decide, by omega, by simp [digits, hc], .inr ⟨rfl, by simp [neg, hc], .inr ⟨by omega, fun e => hc ?_⟩⟩⟩
        exact u8_eq e
  obtain ⟨a, ha1, has, hdg, hneg⟩ := hcase
  obtain ⟨b, hb⟩ : ∃ b, b = neg s.data.toList := ⟨_, rfl⟩
  have tail : ∀ (e : Int), True := fun _ => trivial
  have hnum : numA s.data.toList = if s.data.toList.drop a ≠ [] ∧ (s.data.toList.drop a).all dig = true then (if b = true then (if dval 0 (s.data.toList.drop a) ≤ 2147483648 then some (-(dval 0 (s.data.toList.drop a) : Int)) else none) else if dval 0 (s.data.toList.drop a) ≤ 2147483647 then some (dval 0 (s.data.toList.drop a) : Int) else none) else none := by
    unfold numA; rw [hdg, hb]
  rw [hnum] at h
  have hdl : (s.data.toList.drop a).length = s.size - a := by rw [List.length_drop]; omega
  have hD : ∀ i, (s.data.toList.drop a)[i]? = s.data.toList[a + i]? := fun i => List.getElem?_drop
  clear hdg
  generalize s.data.toList.drop a = D at h hnum hdl hD
  have empty : a = s.size → K (numVal none) st := fun e => by
    rw [if_neg (fun hh => hh.1 (List.eq_nil_of_length_eq_zero (by omega)))] at h
    exact h
  rcases hneg with ⟨rfl, hn, h0, hg0⟩ | ⟨rfl, hn, h0⟩
  case' inl =>
    rw [hn] at hb
    subst hb
    have hq : ((45 : UInt8).toNat : Int) = 45 := rfl
    have hi0 : ∀ K' : Value → Prop, popK .indexStr [.string s, .int .i64 0] K' = K' (.int .u8 45) := fun K' => by
      rw [q_indexStr s .i64 0 (by omega) (by omega)]
      rw [show (0 : Int).toNat = 0 from rfl, hg0]; rfl
  case' inr =>
    rw [hn] at hb
    subst hb
  case inl =>
    by_cases he : (1 : Nat) = s.size
    · have hen := empty he
      simp (disch := omega) only [↓sxA, ↓wk_store, sxB, sxP, Nat.reduceLeDiff, reduceCtorEq, Nat.reduceEqDiff, Nat.reduceAdd, Int.reduceLT, Int.reduceLE, Int.reduceEq, Nat.reduceLT, Int.reduceToNat, Int.reduceAdd, Int.reduceSub, ↓reduceIte, ↓hi0]
      exact hen
    simp (disch := omega) only [↓sxA, ↓wk_store, sxB, sxP, Nat.reduceLeDiff, reduceCtorEq, Nat.reduceEqDiff, Nat.reduceAdd, Int.reduceLT, Int.reduceLE, Int.reduceEq, Nat.reduceLT, Int.reduceToNat, Int.reduceAdd, Int.reduceSub, ↓reduceIte, ↓hi0]
    refine loop_rule [0, 5, 6, 7] (fun vs s' => s' = st ∧ ∃ j : Nat, vs = [.string s, .bool true, .int .i64 (sat (dval 0 (D.take (j - 1)))), .int .i64 (j : Nat)] ∧ 1 ≤ j ∧ j ≤ s.size ∧ (D.take (j - 1)).all dig = true) (fun vs _ => match lget vs 3 with
        | .int _ k => ((s.size : Int) - k).toNat
        | _ => 0) ?_ ?_ ?_
    · rfl
    · refine ⟨_, rfl, ⟨rfl, 1, by rw [Nat.sub_self, List.take_zero]; rfl, Nat.le_refl _, by omega, by rw [Nat.sub_self, List.take_zero]; rfl⟩, ?_⟩
      show ((s.size : Int) - (1 : Int)).toNat < 100000
      omega
    · rintro vs s' ⟨rfl, j, rfl, j0, j1, j2⟩
      show sx _ _ _ _ _ [(0, _), (5, _), (6, _), (7, _)] _ _ _ _
      obtain ⟨x, hx⟩ : ∃ x, x = dval 0 (D.take (j - 1)) := ⟨_, rfl⟩
      rw [← hx]
      have sat0 : 0 ≤ sat x := by unfold sat; split <;> omega
      have sat1 : sat x ≤ 2147483649 := by unfold sat; split <;> omega
      by_cases hj : j < s.size
      · obtain ⟨c, hc, hg, hb'⟩ := byte_at s j hj
        have hcd : D[j - 1]? = some c := by rw [hD, show 1 + (j - 1) = j by omega]; exact hc
        have htk : D.take (j + 1 - 1) = D.take (j - 1) ++ [c] := by rw [show j + 1 - 1 = (j - 1) + 1 by omega, List.take_add_one, hcd]; rfl
        have bad : dig c = false → K (numVal none) s' := fun hp => by
          rw [if_neg] at h
          · exact h
          · rintro ⟨_, hh⟩
            have := List.all_eq_true.1 hh c (List.mem_of_getElem? hcd)
            rw [hp] at this
            cases this
        have good : dig c = true → (D.take (j + 1 - 1)).all dig = true := fun hp => by
          rw [htk, List.all_append, j2]; simp [hp]
        have hdv : dval 0 (D.take (j + 1 - 1)) = x * 10 + (c.toNat - 48) := by rw [htk, dval_app, ← hx]
        have hmeas : ((s.size : Int) - ((j : Int) + 1)).toNat < ((s.size : Int) - j).toNat := by omega
        simp (disch := omega) only [q_indexStr, Int.toNat_natCast, hg, ↓sxA, ↓wk_store, sxB, sxP, Nat.reduceLeDiff, reduceCtorEq, Nat.reduceEqDiff, Nat.reduceAdd, Int.reduceLT, Int.reduceLE, Int.reduceEq, Nat.reduceLT, Int.reduceToNat, Int.reduceAdd, Int.reduceSub, ↓reduceIte]
        refine iteI (fun c1 => ?_) (fun c1 => iteI (fun c2 => ?_) (fun c2 => ?_))
        · exact bad (by simp [dig]; omega)
        · exact bad (by simp [dig]; omega)
        · have hd : dig c = true := by simp [dig]; omega
          have hcast : (c.toNat : Int) - 48 = ((c.toNat - 48 : Nat) : Int) := by omega
          simp (disch := omega) only [q_indexStr, q_subU8, wrap64, Int.toNat_natCast, hg, ↓sxA, ↓wk_store, sxB, sxP, Nat.reduceLeDiff, reduceCtorEq, Nat.reduceEqDiff, Nat.reduceAdd, Int.reduceLT, Int.reduceLE, Int.reduceEq, Nat.reduceLT, Int.reduceToNat, Int.reduceAdd, Int.reduceSub, ↓reduceIte]
          refine iteI (fun c3 => ?_) (fun c3 => ?_)
          · refine ⟨_, rfl, ⟨j + 1, ?_, by omega, hj, good hd⟩, hmeas⟩
            rw [hdv]
            have : sat (x * 10 + (c.toNat - 48)) = 2147483649 := by
              unfold sat at c3 ⊢
              rw [if_neg]
              split at c3 <;> omega
            rw [this]
            simp
          · refine ⟨_, rfl, ⟨j + 1, ?_, by omega, hj, good hd⟩, hmeas⟩
            rw [hdv]
            have : sat (x * 10 + (c.toNat - 48)) = sat x * 10 + ((c.toNat : Int) - 48) := by
              unfold sat at c3 ⊢
              split at c3
              · rw [if_pos (by omega)]; rw [if_pos (by assumption)]; omega
              · omega
            rw [this]
            simp
      · have e : D.take (j - 1) = D := List.take_of_length_le (by omega)
        rw [e] at hx j2
        have hne : D ≠ [] := fun hh => by
          have := congrArg List.length hh
          rw [hdl, List.length_nil] at this
          omega
        rw [if_pos ⟨hne, j2⟩, ← hx] at h
        simp only [if_true] at h
        by_cases hxv : x ≤ 2147483648
        · rw [if_pos hxv, numVal_some] at h
          have hs' : sat x = (x : Int) := by unfold sat; rw [if_pos hxv]
          rw [hs']
          simp (disch := omega) only [wrap64, Int.zero_sub, ↓sxA, ↓wk_store, sxB, sxP, Nat.reduceLeDiff, reduceCtorEq, Nat.reduceEqDiff, Nat.reduceAdd, Int.reduceLT, Int.reduceLE, Int.reduceEq, Nat.reduceLT, Int.reduceToNat, Int.reduceAdd, Int.reduceSub, ↓reduceIte]
          rw [if_neg (by omega), if_neg (by omega)]
          exact h
        · rw [if_neg hxv, numVal_none] at h
          have hs' : sat x = 2147483649 := by unfold sat; rw [if_neg hxv]
          rw [hs']
          simp (disch := omega) only [wrap64, Int.zero_sub, ↓sxA, ↓wk_store, sxB, sxP, Nat.reduceLeDiff, reduceCtorEq, Nat.reduceEqDiff, Nat.reduceAdd, Int.reduceLT, Int.reduceLE, Int.reduceEq, Nat.reduceLT, Int.reduceToNat, Int.reduceAdd, Int.reduceSub, ↓reduceIte]
          exact h
  case inr =>
    by_cases he : (0 : Nat) = s.size
    · have hen := empty he
      simp (disch := omega) only [↓sxA, ↓wk_store, sxB, sxP, Nat.reduceLeDiff, reduceCtorEq, Nat.reduceEqDiff, Nat.reduceAdd, Int.reduceLT, Int.reduceLE, Int.reduceEq, Nat.reduceLT, Int.reduceToNat, Int.reduceAdd, Int.reduceSub, ↓reduceIte]
      exact hen
    have hi0 : ∀ K' : Value → Prop, popK .indexStr [.string s, .int .i64 0] K' = K' (.int .u8 ((s.data.toList.getD 0 0).toNat : Int)) := fun K' => by
      rw [q_indexStr s .i64 0 (by omega) (by omega)]
      rfl
    have hq1 : (((s.data.toList.getD 0 0).toNat : Int) = 45) = False := eq_false fun e => by
      rcases h0 with h0 | h0
      · omega
      · exact h0.2 e
    simp (disch := omega) only [↓sxA, ↓wk_store, sxB, sxP, Nat.reduceLeDiff, reduceCtorEq, Nat.reduceEqDiff, Nat.reduceAdd, Int.reduceLT, Int.reduceLE, Int.reduceEq, Nat.reduceLT, Int.reduceToNat, Int.reduceAdd, Int.reduceSub, ↓reduceIte, ↓hi0, hq1]
    refine loop_rule [0, 5, 6, 7] (fun vs s' => s' = st ∧ ∃ j : Nat, vs = [.string s, .bool false, .int .i64 (sat (dval 0 (D.take (j - 0)))), .int .i64 (j : Nat)] ∧ 0 ≤ j ∧ j ≤ s.size ∧ (D.take (j - 0)).all dig = true) (fun vs _ => match lget vs 3 with
        | .int _ k => ((s.size : Int) - k).toNat
        | _ => 0) ?_ ?_ ?_
    · rfl
    · refine ⟨_, rfl, ⟨rfl, 0, by rw [Nat.sub_self, List.take_zero]; rfl, Nat.le_refl _, by omega, by rw [Nat.sub_self, List.take_zero]; rfl⟩, ?_⟩
      show ((s.size : Int) - (0 : Int)).toNat < 100000
      omega
    · rintro vs s' ⟨rfl, j, rfl, j0, j1, j2⟩
      show sx _ _ _ _ _ [(0, _), (5, _), (6, _), (7, _)] _ _ _ _
      obtain ⟨x, hx⟩ : ∃ x, x = dval 0 (D.take (j - 0)) := ⟨_, rfl⟩
      rw [← hx]
      have sat0 : 0 ≤ sat x := by unfold sat; split <;> omega
      have sat1 : sat x ≤ 2147483649 := by unfold sat; split <;> omega
      by_cases hj : j < s.size
      · obtain ⟨c, hc, hg, hb'⟩ := byte_at s j hj
        have hcd : D[j - 0]? = some c := by rw [hD, show 0 + (j - 0) = j by omega]; exact hc
        have htk : D.take (j + 1 - 0) = D.take (j - 0) ++ [c] := by rw [show j + 1 - 0 = (j - 0) + 1 by omega, List.take_add_one, hcd]; rfl
        have bad : dig c = false → K (numVal none) s' := fun hp => by
          rw [if_neg] at h
          · exact h
          · rintro ⟨_, hh⟩
            have := List.all_eq_true.1 hh c (List.mem_of_getElem? hcd)
            rw [hp] at this
            cases this
        have good : dig c = true → (D.take (j + 1 - 0)).all dig = true := fun hp => by
          rw [htk, List.all_append, j2]; simp [hp]
        have hdv : dval 0 (D.take (j + 1 - 0)) = x * 10 + (c.toNat - 48) := by rw [htk, dval_app, ← hx]
        have hmeas : ((s.size : Int) - ((j : Int) + 1)).toNat < ((s.size : Int) - j).toNat := by omega
        simp (disch := omega) only [q_indexStr, Int.toNat_natCast, hg, ↓sxA, ↓wk_store, sxB, sxP, Nat.reduceLeDiff, reduceCtorEq, Nat.reduceEqDiff, Nat.reduceAdd, Int.reduceLT, Int.reduceLE, Int.reduceEq, Nat.reduceLT, Int.reduceToNat, Int.reduceAdd, Int.reduceSub, ↓reduceIte]
        refine iteI (fun c1 => ?_) (fun c1 => iteI (fun c2 => ?_) (fun c2 => ?_))
        · exact bad (by simp [dig]; omega)
        · exact bad (by simp [dig]; omega)
        · have hd : dig c = true := by simp [dig]; omega
          have hcast : (c.toNat : Int) - 48 = ((c.toNat - 48 : Nat) : Int) := by omega
          simp (disch := omega) only [q_indexStr, q_subU8, wrap64, Int.toNat_natCast, hg, ↓sxA, ↓wk_store, sxB, sxP, Nat.reduceLeDiff, reduceCtorEq, Nat.reduceEqDiff, Nat.reduceAdd, Int.reduceLT, Int.reduceLE, Int.reduceEq, Nat.reduceLT, Int.reduceToNat, Int.reduceAdd, Int.reduceSub, ↓reduceIte]
          refine iteI (fun c3 => ?_) (fun c3 => ?_)
          · refine ⟨_, rfl, ⟨j + 1, ?_, by omega, hj, good hd⟩, hmeas⟩
            rw [hdv]
            have : sat (x * 10 + (c.toNat - 48)) = 2147483649 := by
              unfold sat at c3 ⊢
              rw [if_neg]
              split at c3 <;> omega
            rw [this]
            simp
          · refine ⟨_, rfl, ⟨j + 1, ?_, by omega, hj, good hd⟩, hmeas⟩
            rw [hdv]
            have : sat (x * 10 + (c.toNat - 48)) = sat x * 10 + ((c.toNat : Int) - 48) := by
              unfold sat at c3 ⊢
              split at c3
              · rw [if_pos (by omega)]; rw [if_pos (by assumption)]; omega
              · omega
            rw [this]
            simp
      · have e : D.take (j - 0) = D := List.take_of_length_le (by omega)
        rw [e] at hx j2
        have hne : D ≠ [] := fun hh => by
          have := congrArg List.length hh
          rw [hdl, List.length_nil] at this
          omega
        rw [if_pos ⟨hne, j2⟩, ← hx] at h
        simp only [Bool.false_eq_true, if_false] at h
        by_cases hxv : x ≤ 2147483647
        · rw [if_pos hxv, numVal_some] at h
          have hs' : sat x = (x : Int) := by unfold sat; rw [if_pos (by omega)]
          rw [hs']
          simp (disch := omega) only [↓sxA, ↓wk_store, sxB, sxP, Nat.reduceLeDiff, reduceCtorEq, Nat.reduceEqDiff, Nat.reduceAdd, Int.reduceLT, Int.reduceLE, Int.reduceEq, Nat.reduceLT, Int.reduceToNat, Int.reduceAdd, Int.reduceSub, ↓reduceIte]
          exact h
        · rw [if_neg hxv, numVal_none] at h
          have hs' : 2147483647 < sat x := by unfold sat; split <;> omega
          have hs2 : ¬ sat x < -2147483648 := by omega
          simp (disch := omega) only [↓sxA, ↓wk_store, sxB, sxP, Nat.reduceLeDiff, reduceCtorEq, Nat.reduceEqDiff, Nat.reduceAdd, Int.reduceLT, Int.reduceLE, Int.reduceEq, Nat.reduceLT, Int.reduceToNat, Int.reduceAdd, Int.reduceSub, ↓reduceIte]
          exact h
end
end Go.Proofs.YtdmemibnphcedaaGreatDoor
end
section
set_option linter.unusedSimpArgs false
set_option linter.unusedVariables false
set_option maxRecDepth 10000
set_option linter.unusedSectionVars false
namespace Go.Proofs.YtdmemibnphcedaaGreatDoor
open Go.Am

section
variable {L : List UInt8} {i : Nat} {c d : UInt8}
theorem ql_drop (h : L[i]? = some c) : L.drop i = c :: L.drop (i + 1) := by
  obtain ⟨h1, h2⟩ := List.getElem?_eq_some_iff.1 h
  rw [List.drop_eq_getElem_cons h1, h2]
theorem ql_end (h : L[i]? = none) : quoR L i = none := by
  rw [List.getElem?_eq_none_iff] at h
  rw [quoR, List.drop_eq_nil_of_le h]; rfl
theorem ql_nil (h : L[i]? = none) : L.drop i = [] := List.drop_eq_nil_of_le (List.getElem?_eq_none_iff.1 h)
theorem ql_bad (h : L[i]? = some c) (h1 : c ≠ 34) (h2 : prn c = false) : quoR L i = none := by
  rw [quoR, ql_drop h]
  cases hd : L.drop (i + 1) with
  | nil => simp only [quo]; rw [if_neg h1]
  | cons d r => simp only [quo]; rw [if_neg h1, if_pos h2]
theorem ql_stop (h : L[i]? = some 34) (h1 : ∀ d, L[i + 1]? = some d → d = 32 ∨ d = 61) : quoR L i = some ([], 1) := by
  rw [quoR, ql_drop h]
  cases hd : L[i + 1]? with
  | none => rw [ql_nil hd]; rfl
  | some d =>
    rw [ql_drop hd]
    simp only [quo, if_true]
    rw [if_pos (h1 d hd)]
theorem ql_no (h : L[i]? = some 34) (hd : L[i + 1]? = some d) (h1 : d ≠ 32) (h2 : d ≠ 61) : quoR L i = none := by
  rw [quoR, ql_drop h, ql_drop hd]
  simp only [quo, if_true]
  rw [if_neg (by rintro (e | e); exact h1 e; exact h2 e)]
theorem ql_esc (h : L[i]? = some 42) (hd : L[i + 1]? = some d) (h1 : d = 34 ∨ d = 42) : quoR L i = (quoR L (i + 2)).map fun x => (d :: x.1, x.2 + 2) := by
  rw [quoR, ql_drop h, ql_drop hd]
  simp only [quo]
  rw [if_neg (by decide), if_neg (by decide), if_pos (by simp [h1])]
  rfl
theorem ql_n (h : L[i]? = some 42) (hd : L[i + 1]? = some 110) : quoR L i = (quoR L (i + 2)).map fun x => (10 :: x.1, x.2 + 2) := by
  rw [quoR, ql_drop h, ql_drop hd]
  simp only [quo]
  rw [if_neg (by decide), if_neg (by decide), if_neg (by decide), if_pos (by simp)]
  rfl
theorem ql_oth (h : L[i]? = some c) (hp : prn c = true) (hc : c ≠ 34) (h1 : ∀ d, L[i + 1]? = some d → c = 42 → d ≠ 34 ∧ d ≠ 42 ∧ d ≠ 110) : quoR L i = (quoR L (i + 1)).map fun x => (c :: x.1, x.2 + 1) := by
  unfold quoR
  rw [ql_drop h]
  cases hd : L[i + 1]? with
  | none =>
    rw [ql_nil hd]
    simp only [quo]
    rw [if_neg hc]
    rfl
  | some d =>
    rw [ql_drop hd]
    simp only [quo]
    rw [if_neg hc, if_neg (by rw [hp]; decide), if_neg, if_neg]
    · rintro ⟨e1, e2⟩; exact (h1 d hd e1).2.2 e2
    · rintro ⟨e1, e2 | e2⟩
      · exact (h1 d hd e1).1 e2
      · exact (h1 d hd e1).2.1 e2
end

theorem resP_k2 (e : Env) (s : St) (a b c n : Nat) (Q : Value → St → Prop) : resP e s [(a, n + 2), (b, 0), (c, 0)] Q = getE e a fun u => ropK (.loadN n) [u] s fun x => getE e b fun v => getE e c fun w => Q (.tuple #[x, v, w]) s := by
  unfold resP getE ropK
  simp only [resE, res1E]
  cases e.get? a with
  | none => rfl
  | some u =>
    simp only
    cases rop (.loadN n) [u] s with
    | none => rfl
    | some x =>
      simp only
      cases e.get? b with
      | none => rfl
      | some v =>
        simp only
        cases e.get? c with
        | none => rfl
        | some w => rfl
attribute [local irreducible] callO wopK ropK popK opK grpsE listE sx Runs

theorem rk_put4 {s : St} {b g : Nat} {ro : Bool} {x y z u : Value} (K : Value → Prop) : ropK (.loadN 4) [.pointer (some ⟨b, 0, none⟩)] (s.put b (some (.row [x, y, z, u] g ro))) K = K (.agg #[x, y, z, u]) := rk_loadAll (k := 4) (get_put_same _ _ _) rfl (by decide) K

/-- what the chapter's next gives -/
def WdR (L : List UInt8) (p : Nat) (v : Value) (more good : Bool) : Prop := match nxt L p with
  | .fin => more = false ∧ good = true ∧ v = .agg #[.string .empty, .bool false, .int .i64 0, .int .i64 0]
  | .bad fr => more = true ∧ good = false ∧ ∃ s q to, v = .agg #[.string s, .bool q, .int .i64 (fr : Nat), .int .i64 to]
  | .wd w q fr to => more = true ∧ good = true ∧ v = .agg #[.string (bs w), .bool q, .int .i64 (fr : Nat), .int .i64 (to : Nat)]

section
variable {st : St} {K : Value → St → Prop}

set_option maxHeartbeats 4000000 in
theorem kNextR (n : Nat) (s : ByteArray) (hs : s.size ≤ 80000) (p : Nat) (hp : p ≤ s.size) (h : ∀ v more good st', WdR s.data.toList p v more good → Frm st st' → K (.tuple #[v, .bool more, .bool good]) st') :
    callK (callO T0 orc fns 100000 (n + 1)) 45 [.string s, .int .i64 (p : Nat)] st K := by
  refine fn_runs (fn := g45) ?_ ?_ ?_
  · rfl
  · rfl
  unfold g45
  have hsz := size_list s
  have F0 : Frm st (st.new (.row [.string .empty, .bool false, .int .i64 0, .int .i64 0] 0 false)) := Frm.new st _
  have hbx : (st.new (.row [.string .empty, .bool false, .int .i64 0, .int .i64 0] 0 false)).get st.next = some (.row [.string .empty, .bool false, .int .i64 0, .int .i64 0] 0 false) := get_new_same _ _
  have hn1 : (st.new (.row [.string .empty, .bool false, .int .i64 0, .int .i64 0] 0 false)).next = st.next + 1 := rfl
  simp (disch := omega) only [↓sxA, ↓wk_store, sxB, sxP, Nat.reduceLeDiff, reduceCtorEq, Nat.reduceEqDiff, Nat.reduceAdd, Int.reduceLT, Int.reduceLE, Int.reduceEq, Nat.reduceLT, Int.reduceToNat, Int.reduceAdd, Int.reduceSub, ↓reduceIte]
  generalize st.new (.row [.string .empty, .bool false, .int .i64 0, .int .i64 0] 0 false) = s1 at F0 hbx hn1
  refine loop_rule [0, 1, 4] (fun vs st' => st' = s1 ∧ ∃ j : Nat, vs = [.string s, .int .i64 (j : Nat), .pointer (some ⟨st.next, 0, none⟩)] ∧ j ≤ s.size ∧ blk s.data.toList j = blk s.data.toList p) (fun vs _ => match lget vs 1 with
      | .int _ k => ((s.size : Int) - k).toNat
      | _ => 0) ?_ ?_ ?_
  · rfl
  · refine ⟨_, rfl, ⟨rfl, p, rfl, hp, rfl⟩, ?_⟩
    show ((s.size : Int) - (p : Int)).toNat < 100000
    omega
  · rintro vs st' ⟨rfl, j, rfl, j1, j2⟩
    show sx _ _ _ _ _ [(0, _), (1, _), (4, _)] _ _ _ _
    have hF : ∀ o, Frm st (st'.put st.next o) := fun o => F0.put _ (Nat.le_refl _) _
    by_cases hj : j < s.size
    · obtain ⟨c, hc, hg, hb'⟩ := byte_at s j hj
      by_cases c1 : (c.toNat : Int) = 32
      · have hq1 : ((c.toNat : Int) = 32) = True := eq_true c1
        simp (disch := omega) only [q_indexStr, Int.toNat_natCast, hg, hq1, ↓sxA, ↓wk_store, sxB, sxP, Nat.reduceLeDiff, reduceCtorEq, Nat.reduceEqDiff, Nat.reduceAdd, Int.reduceLT, Int.reduceLE, Int.reduceEq, Nat.reduceLT, Int.reduceToNat, Int.reduceAdd, Int.reduceSub, ↓reduceIte]
        refine ⟨_, rfl, ⟨j + 1, ?_, hj, ?_⟩, ?_⟩
        · simp
        · rw [← blk_hit (by rw [hc, u8_eq c1]; rfl), j2]
        · show ((s.size : Int) - ((j : Int) + 1)).toNat < ((s.size : Int) - j).toNat
          omega
      have hq1 : ((c.toNat : Int) = 32) = False := eq_false c1
      have hbj : blk s.data.toList p = j := by rw [← j2, blk_stop (by rw [hc]; intro e; cases e; exact c1 rfl)]
      have hcb : s.data.toList[blk s.data.toList p]? = some c := by rw [hbj]; exact hc
      by_cases c2 : (c.toNat : Int) = 61
      · have hq2 : ((c.toNat : Int) = 61) = True := eq_true c2
        have e61 : c = 61 := u8_eq c2
        have hW : WdR s.data.toList p (.agg #[.string ⟨#[61]⟩, .bool false, .int .i64 (j : Nat), .int .i64 ((j : Int) + 1)]) true true := by
          have hn : nxt s.data.toList p = .wd [61] false j (j + 1) := by unfold nxt; rw [hcb, hbj]; simp only; rw [if_pos e61]
          unfold WdR
          rw [hn]
          exact ⟨rfl, rfl, by simp; rfl⟩
        simp (disch := omega) only [q_indexStr, Int.toNat_natCast, hg, hq1, hq2, hbx, ↓rk_put4, ↓sxA, ↓wk_store, sxB, sxP, Nat.reduceLeDiff, reduceCtorEq, Nat.reduceEqDiff, Nat.reduceAdd, Int.reduceLT, Int.reduceLE, Int.reduceEq, Nat.reduceLT, Int.reduceToNat, Int.reduceAdd, Int.reduceSub, ↓reduceIte]
        rw [resP_k2]
        simp (disch := omega) only [↓rk_put4, ↓sxA, ↓wk_store, sxB, sxP, Nat.reduceLeDiff, reduceCtorEq, Nat.reduceEqDiff, Nat.reduceAdd, Int.reduceLT, Int.reduceLE, Int.reduceEq, Nat.reduceLT, Int.reduceToNat, Int.reduceAdd, Int.reduceSub, ↓reduceIte]
        exact h _ _ _ _ hW (((hF _).put _ (Nat.le_refl _) _).put _ (Nat.le_refl _) _ |>.put _ (Nat.le_refl _) _)
      have hq2 : ((c.toNat : Int) = 61) = False := eq_false c2
      have n61 : c ≠ 61 := fun e => c2 (by rw [e]; rfl)
      by_cases c3 : (c.toNat : Int) = 34
      · have hq3 : ((c.toNat : Int) = 34) = True := eq_true c3
        have e34 : c = 34 := u8_eq c3
        have hnQ : ∀ x, quoR s.data.toList (j + 1) = some x → nxt s.data.toList p = .wd x.1 true j (j + 1 + x.2) := fun x hx => by
          unfold nxt; rw [hcb, hbj]; simp only
          rw [if_neg n61, if_pos e34]
          unfold quoR at hx; rw [hx]
        have hnQ0 : quoR s.data.toList (j + 1) = none → nxt s.data.toList p = .bad j := fun hx => by
          unfold nxt; rw [hcb, hbj]; simp only
          rw [if_neg n61, if_pos e34]
          unfold quoR at hx; rw [hx]
        simp (disch := omega) only [q_indexStr, Int.toNat_natCast, hg, hq1, hq2, hq3, hbx, ↓sxA, ↓wk_store, sxB, sxP, Nat.reduceLeDiff, reduceCtorEq, Nat.reduceEqDiff, Nat.reduceAdd, Int.reduceLT, Int.reduceLE, Int.reduceEq, Nat.reduceLT, Int.reduceToNat, Int.reduceAdd, Int.reduceSub, ↓reduceIte]
        obtain ⟨s2, hs2⟩ : ∃ s2, s2 = (st'.put st.next (some (.row [.string .empty, .bool false, .int .i64 (j : Nat), .int .i64 0] 0 false))).put st.next (some (.row [.string .empty, .bool true, .int .i64 (j : Nat), .int .i64 0] 0 false)) := ⟨_, rfl⟩
        have hb2 : s2.get st.next = some (.row [.string .empty, .bool true, .int .i64 (j : Nat), .int .i64 0] 0 false) := by rw [hs2]; exact get_put_same _ _ _
        have F2 : Frm st s2 := by rw [hs2]; exact (hF _).put _ (Nat.le_refl _) _
        have n2 : s2.next = st.next + 1 := by rw [hs2]; exact hn1
        rw [← hs2]
        clear hs2
        refine loop_rule [0, 1, 4, 7] (fun vs s3 => ∃ (i : Nat) (acc : List UInt8) (out : Value), vs = [.string s, .int .i64 (i : Nat), .pointer (some ⟨st.next, 0, none⟩), out] ∧ j + 1 ≤ i ∧ i ≤ s.size ∧ acc.length ≤ i ∧ Wr s2 s3 out acc ∧ quoR s.data.toList (j + 1) = (quoR s.data.toList i).map fun x => (acc ++ x.1, x.2 + (i - (j + 1)))) (fun vs _ => match lget vs 1 with
            | .int _ k => ((s.size : Int) - k).toNat
            | _ => 0) ?_ ?_ ?_
        · rfl
        · refine ⟨_, rfl, ⟨j + 1, [], _, by simp, Nat.le_refl _, hj, Nat.zero_le _, ⟨Gro.nil _, .inl rfl, Nat.zero_le _, Frm.refl _⟩, by simp⟩, ?_⟩
          show ((s.size : Int) - ((j : Int) + 1)).toNat < 100000
          omega
        · rintro vs s3 ⟨i, acc, out, rfl, i1, i2, hac, hW, hQ⟩
          show sx _ _ _ _ _ [(0, _), (1, _), (4, _), (7, _)] _ _ _ _
          have hb3 := (hW.2.2.2.old st.next (by omega)).trans hb2
          have n3 := hW.2.2.2.nx
          have F3 : Frm st s3 := F2.trans hW.2.2.2
          have bad : quoR s.data.toList (j + 1) = none → ∀ w to st5, Frm st st5 → K (.tuple #[.agg #[.string w, .bool true, .int .i64 (j : Nat), .int .i64 to], .bool true, .bool false]) st5 := fun hq w to st5 hf => by
            refine h _ _ _ _ ?_ hf
            unfold WdR
            rw [hnQ0 hq]
            exact ⟨rfl, rfl, _, _, _, rfl⟩
          have all3 := rk_loadAll (k := 4) hb3 rfl (by decide)
          have F3p : ∀ o, Frm st (s3.put st.next o) := fun o => F3.put _ (Nat.le_refl _) _
          by_cases hi : i < s.size
          · obtain ⟨d, hd, hgd, hbd⟩ := byte_at s i hi
            by_cases d1 : prn d = true
            · have hp1 : ¬ (d.toNat : Int) < 32 := by simp [prn] at d1; omega
              have hp2 : ¬ (126 : Int) < (d.toNat : Int) := by simp [prn] at d1; omega
              have app : ∀ (e : UInt8) (m : Nat) (W : Value → St → Prop), quoR s.data.toList i = ((quoR s.data.toList (i + m)).map fun x => (e :: x.1, x.2 + m)) → (∀ out1 s4, Wr s2 s4 out1 (acc ++ [e]) → quoR s.data.toList (j + 1) = ((quoR s.data.toList (i + m)).map fun x => (acc ++ [e] ++ x.1, x.2 + (i + m - (j + 1)))) → W out1 s4) →
                  wopK (.append 1 1) [out, .slice (some ⟨s3.next, 0, none⟩) 1 1] (s3.new (.row [.int .u8 (e.toNat : Int)] 0 false)) W := fun e m W hq hW' => by
                refine Wr.row (m := [e]) hW rfl Nat.zero_lt_one (by simp; omega) fun out1 s4 g1 g2 g3 g4 => hW' out1 s4 g1 ?_
                exact quo_pre (by omega) hQ hq
              have hmeas1 : ((s.size : Int) - ((i : Int) + 1)).toNat < ((s.size : Int) - (i : Int)).toNat := by omega
              have hmeas2 : ((s.size : Int) - ((i : Int) + 1 + 1)).toNat < ((s.size : Int) - (i : Int)).toNat := by omega
              by_cases d2 : (d.toNat : Int) = 34
              · have hd2 : ((d.toNat : Int) = 34) = True := eq_true d2
                have e2 : d = 34 := u8_eq d2
                subst e2
                have rs := fun K => rk_str (K := K) hW.1
                have good : quoR s.data.toList i = some ([], 1) → ∀ st5, Frm st st5 → K (.tuple #[.agg #[.string (bs acc), .bool true, .int .i64 (j : Nat), .int .i64 ((i : Int) + 1)], .bool true, .bool true]) st5 := fun hq st5 hf => by
                  refine h _ _ _ _ ?_ hf
                  unfold WdR
                  rw [hnQ _ (by rw [hQ, hq]; rfl)]
                  refine ⟨rfl, rfl, ?_⟩
                  have hsum : ((j + 1 + (1 + (i - (j + 1))) : Nat) : Int) = (i : Int) + 1 := by omega
                  simp only [List.append_nil, hsum]
                have bad' : quoR s.data.toList i = none → ∀ st5, Frm st st5 → K (.tuple #[.agg #[.string (bs acc), .bool true, .int .i64 (j : Nat), .int .i64 ((i : Int) + 1)], .bool true, .bool false]) st5 := fun hq st5 hf => bad (by rw [hQ, hq]; rfl) _ _ _ hf
                by_cases hi1 : i + 1 < s.size
                · obtain ⟨e, he, hge, hbe⟩ := byte_at s (i + 1) hi1
                  have hcast : (i : Int) + 1 = ((i + 1 : Nat) : Int) := by omega
                  have hix : ∀ K' : Value → Prop, popK .indexStr [.string s, .int .i64 ((i : Int) + 1)] K' = K' (.int .u8 (e.toNat : Int)) := fun K' => by
                    rw [hcast, q_indexStr s .i64 _ (by omega) (by omega), Int.toNat_natCast, hge]
                  by_cases x1 : (e.toNat : Int) = 32
                  · have hx1 : ((e.toNat : Int) = 32) = True := eq_true x1
                    simp (disch := omega) only [q_indexStr, Int.toNat_natCast, hgd, hd2, hb3, ↓rs, ↓rk_put4, ↓hix, hx1, ↓sxA, ↓wk_store, sxB, sxP, Nat.reduceLeDiff, reduceCtorEq, Nat.reduceEqDiff, Nat.reduceAdd, Int.reduceLT, Int.reduceLE, Int.reduceEq, Nat.reduceLT, Int.reduceToNat, Int.reduceAdd, Int.reduceSub, ↓reduceIte]
                    rw [resP_k2]
                    simp (disch := omega) only [↓rk_put4, ↓sxA, ↓wk_store, sxB, sxP, Nat.reduceLeDiff, reduceCtorEq, Nat.reduceEqDiff, Nat.reduceAdd, Int.reduceLT, Int.reduceLE, Int.reduceEq, Nat.reduceLT, Int.reduceToNat, Int.reduceAdd, Int.reduceSub, ↓reduceIte]
                    exact good (ql_stop hd fun y hy => by rw [he] at hy; cases hy; exact .inl (u8_eq x1)) _ (((F3p _).put _ (Nat.le_refl _) _).put _ (Nat.le_refl _) _)
                  · have hx1 : ((e.toNat : Int) = 32) = False := eq_false x1
                    by_cases x2 : (e.toNat : Int) = 61
                    · have hx2 : ((e.toNat : Int) = 61) = True := eq_true x2
                      simp (disch := omega) only [q_indexStr, Int.toNat_natCast, hgd, hd2, hb3, ↓rs, ↓rk_put4, ↓hix, hx1, hx2, ↓sxA, ↓wk_store, sxB, sxP, Nat.reduceLeDiff, reduceCtorEq, Nat.reduceEqDiff, Nat.reduceAdd, Int.reduceLT, Int.reduceLE, Int.reduceEq, Nat.reduceLT, Int.reduceToNat, Int.reduceAdd, Int.reduceSub, ↓reduceIte]
                      rw [resP_k2]
                      simp (disch := omega) only [↓rk_put4, ↓sxA, ↓wk_store, sxB, sxP, Nat.reduceLeDiff, reduceCtorEq, Nat.reduceEqDiff, Nat.reduceAdd, Int.reduceLT, Int.reduceLE, Int.reduceEq, Nat.reduceLT, Int.reduceToNat, Int.reduceAdd, Int.reduceSub, ↓reduceIte]
                      exact good (ql_stop hd fun y hy => by rw [he] at hy; cases hy; exact .inr (u8_eq x2)) _ (((F3p _).put _ (Nat.le_refl _) _).put _ (Nat.le_refl _) _)
                    · have hx2 : ((e.toNat : Int) = 61) = False := eq_false x2
                      simp (disch := omega) only [q_indexStr, Int.toNat_natCast, hgd, hd2, hb3, ↓rs, ↓rk_put4, ↓hix, hx1, hx2, ↓sxA, ↓wk_store, sxB, sxP, Nat.reduceLeDiff, reduceCtorEq, Nat.reduceEqDiff, Nat.reduceAdd, Int.reduceLT, Int.reduceLE, Int.reduceEq, Nat.reduceLT, Int.reduceToNat, Int.reduceAdd, Int.reduceSub, ↓reduceIte]
                      rw [resP_k2]
                      simp (disch := omega) only [↓rk_put4, ↓sxA, ↓wk_store, sxB, sxP, Nat.reduceLeDiff, reduceCtorEq, Nat.reduceEqDiff, Nat.reduceAdd, Int.reduceLT, Int.reduceLE, Int.reduceEq, Nat.reduceLT, Int.reduceToNat, Int.reduceAdd, Int.reduceSub, ↓reduceIte]
                      exact bad' (ql_no hd he (fun e => x1 (by rw [e]; rfl)) (fun e => x2 (by rw [e]; rfl))) _ (((F3p _).put _ (Nat.le_refl _) _).put _ (Nat.le_refl _) _)
                · simp (disch := omega) only [q_indexStr, Int.toNat_natCast, hgd, hd2, hb3, ↓rs, ↓rk_put4, ↓sxA, ↓wk_store, sxB, sxP, Nat.reduceLeDiff, reduceCtorEq, Nat.reduceEqDiff, Nat.reduceAdd, Int.reduceLT, Int.reduceLE, Int.reduceEq, Nat.reduceLT, Int.reduceToNat, Int.reduceAdd, Int.reduceSub, ↓reduceIte]
                  rw [resP_k2]
                  simp (disch := omega) only [↓rk_put4, ↓sxA, ↓wk_store, sxB, sxP, Nat.reduceLeDiff, reduceCtorEq, Nat.reduceEqDiff, Nat.reduceAdd, Int.reduceLT, Int.reduceLE, Int.reduceEq, Nat.reduceLT, Int.reduceToNat, Int.reduceAdd, Int.reduceSub, ↓reduceIte]
                  exact good (ql_stop hd fun y hy => by rw [byte_no s (i + 1) (by omega)] at hy; cases hy) _ (((F3p _).put _ (Nat.le_refl _) _).put _ (Nat.le_refl _) _)
              · have hd2 : ((d.toNat : Int) = 34) = False := eq_false d2
                have n34 : d ≠ 34 := fun e => d2 (by rw [e]; rfl)
                by_cases d3 : (d.toNat : Int) = 42
                · have hd3 : ((d.toNat : Int) = 42) = True := eq_true d3
                  have e42 : d = 42 := u8_eq d3
                  subst e42
                  by_cases hi1 : i + 1 < s.size
                  · obtain ⟨e, he, hge, hbe⟩ := byte_at s (i + 1) hi1
                    have hcast : (i : Int) + 1 = ((i + 1 : Nat) : Int) := by omega
                    have hix : ∀ K' : Value → Prop, popK .indexStr [.string s, .int .i64 ((i : Int) + 1)] K' = K' (.int .u8 (e.toNat : Int)) := fun K' => by
                      rw [hcast, q_indexStr s .i64 _ (by omega) (by omega), Int.toNat_natCast, hge]
                    by_cases x1 : (e.toNat : Int) = 34
                    · have hx1 : ((e.toNat : Int) = 34) = True := eq_true x1
                      have hx3 : ((e.toNat : Int) = 110) = False := eq_false (by omega)
                      simp (disch := omega) only [q_indexStr, Int.toNat_natCast, hgd, hd2, hd3, ↓hix, hx1, hx3, ↓sxA, ↓wk_store, sxB, sxP, Nat.reduceLeDiff, reduceCtorEq, Nat.reduceEqDiff, Nat.reduceAdd, Int.reduceLT, Int.reduceLE, Int.reduceEq, Nat.reduceLT, Int.reduceToNat, Int.reduceAdd, Int.reduceSub, ↓reduceIte]
                      refine app e 2 _ (ql_esc hd he (.inl (u8_eq x1))) fun out1 s4 g1 g2 => ?_
                      simp (disch := omega) only [↓sxA, ↓wk_store, sxB, sxP, Nat.reduceLeDiff, reduceCtorEq, Nat.reduceEqDiff, Nat.reduceAdd, Int.reduceLT, Int.reduceLE, Int.reduceEq, Nat.reduceLT, Int.reduceToNat, Int.reduceAdd, Int.reduceSub, ↓reduceIte]
                      exact ⟨_, rfl, ⟨i + 2, acc ++ [e], out1, by simp; omega, by omega, by omega, by simp; omega, g1, g2⟩, hmeas2⟩
                    · have hx1 : ((e.toNat : Int) = 34) = False := eq_false x1
                      by_cases x2 : (e.toNat : Int) = 42
                      · have hx2 : ((e.toNat : Int) = 42) = True := eq_true x2
                        have hx3 : ((e.toNat : Int) = 110) = False := eq_false (by omega)
                        simp (disch := omega) only [q_indexStr, Int.toNat_natCast, hgd, hd2, hd3, ↓hix, hx1, hx2, hx3, ↓sxA, ↓wk_store, sxB, sxP, Nat.reduceLeDiff, reduceCtorEq, Nat.reduceEqDiff, Nat.reduceAdd, Int.reduceLT, Int.reduceLE, Int.reduceEq, Nat.reduceLT, Int.reduceToNat, Int.reduceAdd, Int.reduceSub, ↓reduceIte]
                        refine app e 2 _ (ql_esc hd he (.inr (u8_eq x2))) fun out1 s4 g1 g2 => ?_
                        simp (disch := omega) only [↓sxA, ↓wk_store, sxB, sxP, Nat.reduceLeDiff, reduceCtorEq, Nat.reduceEqDiff, Nat.reduceAdd, Int.reduceLT, Int.reduceLE, Int.reduceEq, Nat.reduceLT, Int.reduceToNat, Int.reduceAdd, Int.reduceSub, ↓reduceIte]
                        exact ⟨_, rfl, ⟨i + 2, acc ++ [e], out1, by simp; omega, by omega, by omega, by simp; omega, g1, g2⟩, hmeas2⟩
                      · have hx2 : ((e.toNat : Int) = 42) = False := eq_false x2
                        by_cases x3 : (e.toNat : Int) = 110
                        · have hx3 : ((e.toNat : Int) = 110) = True := eq_true x3
                          simp (disch := omega) only [q_indexStr, Int.toNat_natCast, hgd, hd2, hd3, ↓hix, hx1, hx2, hx3, ↓sxA, ↓wk_store, sxB, sxP, Nat.reduceLeDiff, reduceCtorEq, Nat.reduceEqDiff, Nat.reduceAdd, Int.reduceLT, Int.reduceLE, Int.reduceEq, Nat.reduceLT, Int.reduceToNat, Int.reduceAdd, Int.reduceSub, ↓reduceIte]
                          refine app 10 2 _ (ql_n hd (by rw [he, u8_eq x3]; rfl)) fun out1 s4 g1 g2 => ?_
                          simp (disch := omega) only [↓sxA, ↓wk_store, sxB, sxP, Nat.reduceLeDiff, reduceCtorEq, Nat.reduceEqDiff, Nat.reduceAdd, Int.reduceLT, Int.reduceLE, Int.reduceEq, Nat.reduceLT, Int.reduceToNat, Int.reduceAdd, Int.reduceSub, ↓reduceIte]
                          exact ⟨_, rfl, ⟨i + 2, acc ++ [10], out1, by simp; omega, by omega, by omega, by simp; omega, g1, g2⟩, hmeas2⟩
                        · have hx3 : ((e.toNat : Int) = 110) = False := eq_false x3
                          simp (disch := omega) only [q_indexStr, Int.toNat_natCast, hgd, hd2, hd3, ↓hix, hx1, hx2, hx3, ↓sxA, ↓wk_store, sxB, sxP, Nat.reduceLeDiff, reduceCtorEq, Nat.reduceEqDiff, Nat.reduceAdd, Int.reduceLT, Int.reduceLE, Int.reduceEq, Nat.reduceLT, Int.reduceToNat, Int.reduceAdd, Int.reduceSub, ↓reduceIte]
                          refine app 42 1 _ (ql_oth hd d1 n34 fun y hy _ => ?_) fun out1 s4 g1 g2 => ?_
                          · rw [he] at hy; cases hy
                            exact ⟨fun e => x1 (by rw [e]; rfl), fun e => x2 (by rw [e]; rfl), fun e => x3 (by rw [e]; rfl)⟩
                          simp (disch := omega) only [↓sxA, ↓wk_store, sxB, sxP, Nat.reduceLeDiff, reduceCtorEq, Nat.reduceEqDiff, Nat.reduceAdd, Int.reduceLT, Int.reduceLE, Int.reduceEq, Nat.reduceLT, Int.reduceToNat, Int.reduceAdd, Int.reduceSub, ↓reduceIte]
                          exact ⟨_, rfl, ⟨i + 1, acc ++ [42], out1, by simp, by omega, by omega, by simp; omega, g1, g2⟩, hmeas1⟩
                  · simp (disch := omega) only [q_indexStr, Int.toNat_natCast, hgd, hd2, hd3, ↓sxA, ↓wk_store, sxB, sxP, Nat.reduceLeDiff, reduceCtorEq, Nat.reduceEqDiff, Nat.reduceAdd, Int.reduceLT, Int.reduceLE, Int.reduceEq, Nat.reduceLT, Int.reduceToNat, Int.reduceAdd, Int.reduceSub, ↓reduceIte]
                    refine app 42 1 _ (ql_oth hd d1 n34 fun y hy _ => ?_) fun out1 s4 g1 g2 => ?_
                    · rw [byte_no s (i + 1) (by omega)] at hy; cases hy
                    simp (disch := omega) only [↓sxA, ↓wk_store, sxB, sxP, Nat.reduceLeDiff, reduceCtorEq, Nat.reduceEqDiff, Nat.reduceAdd, Int.reduceLT, Int.reduceLE, Int.reduceEq, Nat.reduceLT, Int.reduceToNat, Int.reduceAdd, Int.reduceSub, ↓reduceIte]
                    exact ⟨_, rfl, ⟨i + 1, acc ++ [42], out1, by simp, by omega, by omega, by simp; omega, g1, g2⟩, hmeas1⟩
                · have hd3 : ((d.toNat : Int) = 42) = False := eq_false d3
                  have hpe1 : ((d.toNat : Int) < 32) = False := eq_false hp1
                  have hpe2 : ((126 : Int) < (d.toNat : Int)) = False := eq_false hp2
                  simp (disch := omega) only [q_indexStr, Int.toNat_natCast, hgd, hd2, hd3, hpe1, hpe2, ↓sxA, ↓wk_store, sxB, sxP, Nat.reduceLeDiff, reduceCtorEq, Nat.reduceEqDiff, Nat.reduceAdd, Int.reduceLT, Int.reduceLE, Int.reduceEq, Nat.reduceLT, Int.reduceToNat, Int.reduceAdd, Int.reduceSub, ↓reduceIte]
                  refine app d 1 _ (ql_oth hd d1 n34 fun y hy e => absurd e fun e => d3 (by rw [e]; rfl)) fun out1 s4 g1 g2 => ?_
                  simp (disch := omega) only [↓sxA, ↓wk_store, sxB, sxP, Nat.reduceLeDiff, reduceCtorEq, Nat.reduceEqDiff, Nat.reduceAdd, Int.reduceLT, Int.reduceLE, Int.reduceEq, Nat.reduceLT, Int.reduceToNat, Int.reduceAdd, Int.reduceSub, ↓reduceIte]
                  exact ⟨_, rfl, ⟨i + 1, acc ++ [d], out1, by simp, by omega, by omega, by simp; omega, g1, g2⟩, hmeas1⟩
            · have d1' : prn d = false := by simpa using d1
              have hq : quoR s.data.toList i = none := ql_bad hd (fun e => d1 (by rw [e]; rfl)) d1'
              have hbq := bad (by rw [hQ, hq]; rfl)
              simp (disch := omega) only [q_indexStr, Int.toNat_natCast, hgd, hb3, ↓all3, ↓sxA, ↓wk_store, sxB, sxP, Nat.reduceLeDiff, reduceCtorEq, Nat.reduceEqDiff, Nat.reduceAdd, Int.reduceLT, Int.reduceLE, Int.reduceEq, Nat.reduceLT, Int.reduceToNat, Int.reduceAdd, Int.reduceSub, ↓reduceIte]
              refine iteI (fun x1 => ?_) (fun x1 => iteI (fun x2 => ?_) (fun x2 => ?_))
              · simp (disch := omega) only [hb3, ↓all3, ↓sxA, ↓wk_store, sxB, sxP, Nat.reduceLeDiff, reduceCtorEq, Nat.reduceEqDiff, Nat.reduceAdd, Int.reduceLT, Int.reduceLE, Int.reduceEq, Nat.reduceLT, Int.reduceToNat, Int.reduceAdd, Int.reduceSub, ↓reduceIte]
                rw [resP_k2]
                simp (disch := omega) only [↓rk_put4, ↓sxA, ↓wk_store, sxB, sxP, Nat.reduceLeDiff, reduceCtorEq, Nat.reduceEqDiff, Nat.reduceAdd, Int.reduceLT, Int.reduceLE, Int.reduceEq, Nat.reduceLT, Int.reduceToNat, Int.reduceAdd, Int.reduceSub, ↓reduceIte]
                exact hbq _ _ _ (F3p _)
              · simp (disch := omega) only [hb3, ↓all3, ↓sxA, ↓wk_store, sxB, sxP, Nat.reduceLeDiff, reduceCtorEq, Nat.reduceEqDiff, Nat.reduceAdd, Int.reduceLT, Int.reduceLE, Int.reduceEq, Nat.reduceLT, Int.reduceToNat, Int.reduceAdd, Int.reduceSub, ↓reduceIte]
                rw [resP_k2]
                simp (disch := omega) only [↓rk_put4, ↓sxA, ↓wk_store, sxB, sxP, Nat.reduceLeDiff, reduceCtorEq, Nat.reduceEqDiff, Nat.reduceAdd, Int.reduceLT, Int.reduceLE, Int.reduceEq, Nat.reduceLT, Int.reduceToNat, Int.reduceAdd, Int.reduceSub, ↓reduceIte]
                exact hbq _ _ _ (F3p _)
              · exfalso
                refine d1 ?_
                simp [prn]; omega
          · have hbq := bad (by rw [hQ, ql_end (byte_no s i (by omega))]; rfl)
            simp (disch := omega) only [hb3, ↓all3, ↓sxA, ↓wk_store, sxB, sxP, Nat.reduceLeDiff, reduceCtorEq, Nat.reduceEqDiff, Nat.reduceAdd, Int.reduceLT, Int.reduceLE, Int.reduceEq, Nat.reduceLT, Int.reduceToNat, Int.reduceAdd, Int.reduceSub, ↓reduceIte]
            rw [resP_k2]
            simp (disch := omega) only [↓rk_put4, ↓sxA, ↓wk_store, sxB, sxP, Nat.reduceLeDiff, reduceCtorEq, Nat.reduceEqDiff, Nat.reduceAdd, Int.reduceLT, Int.reduceLE, Int.reduceEq, Nat.reduceLT, Int.reduceToNat, Int.reduceAdd, Int.reduceSub, ↓reduceIte]
            exact hbq _ _ _ (F3p _)
      have hq3 : ((c.toNat : Int) = 34) = False := eq_false c3
      have n34 : c ≠ 34 := fun e => c3 (by rw [e]; rfl)
      simp (disch := omega) only [q_indexStr, Int.toNat_natCast, hg, hq1, hq2, hq3, hbx, ↓sxA, ↓wk_store, sxB, sxP, Nat.reduceLeDiff, reduceCtorEq, Nat.reduceEqDiff, Nat.reduceAdd, Int.reduceLT, Int.reduceLE, Int.reduceEq, Nat.reduceLT, Int.reduceToNat, Int.reduceAdd, Int.reduceSub, ↓reduceIte]
      obtain ⟨s2, hs2⟩ : ∃ s2, s2 = st'.put st.next (some (.row [.string .empty, .bool false, .int .i64 (j : Nat), .int .i64 0] 0 false)) := ⟨_, rfl⟩
      have hb2 : s2.get st.next = some (.row [.string .empty, .bool false, .int .i64 (j : Nat), .int .i64 0] 0 false) := by rw [hs2]; exact get_put_same _ _ _
      have F2 : Frm st s2 := by rw [hs2]; exact hF _
      rw [← hs2]
      clear hs2
      refine loop_rule [0, 1, 4] (fun vs s3 => s3 = s2 ∧ ∃ i : Nat, vs = [.string s, .int .i64 (i : Nat), .pointer (some ⟨st.next, 0, none⟩)] ∧ j ≤ i ∧ i ≤ s.size ∧ pwE s.data.toList i = pwE s.data.toList j ∧ ((s.data.toList.drop j).take (i - j)).all prn = true) (fun vs _ => match lget vs 1 with
          | .int _ k => ((s.size : Int) - k).toNat
          | _ => 0) ?_ ?_ ?_
      · rfl
      · refine ⟨_, rfl, ⟨rfl, j, rfl, Nat.le_refl _, j1, rfl, by rw [Nat.sub_self]; rfl⟩, ?_⟩
        show ((s.size : Int) - (j : Int)).toNat < 100000
        omega
      · rintro vs s3 ⟨rfl, i, rfl, i1, i2, i3, i4⟩
        show sx _ _ _ _ _ [(0, _), (1, _), (4, _)] _ _ _ _
        have F2p : ∀ o, Frm st (s3.put st.next o) := fun o => F2.put _ (Nat.le_refl _) _
        have hpw : pwE s.data.toList j = j + pw (s.data.toList.drop j) := rfl
        have fin : pwE s.data.toList j = i → ∀ st5, Frm st st5 → K (.tuple #[.agg #[.string (s.extract j i), .bool false, .int .i64 (j : Nat), .int .i64 (i : Nat)], .bool true, .bool true]) st5 := fun e st5 hf => by
          refine h _ _ _ _ ?_ hf
          have e' : pw (s.data.toList.drop j) = i - j := by omega
          have hn : nxt s.data.toList p = .wd ((s.data.toList.drop j).take (i - j)) false j i := by
            unfold nxt; rw [hcb, hbj]; simp only
            rw [if_neg n61, if_neg n34, e', if_pos i4, e]
          unfold WdR
          rw [hn]
          refine ⟨rfl, rfl, ?_⟩
          rw [extract_bs]
        by_cases hi : i < s.size
        · obtain ⟨d, hd, hgd, hbd⟩ := byte_at s i hi
          by_cases x1 : (d.toNat : Int) = 32
          · have hx1 : ((d.toNat : Int) = 32) = True := eq_true x1
            have hend : pwE s.data.toList j = i := by rw [← i3, pwE_stop (fun y hy => by rw [hd] at hy; cases hy; exact .inl (u8_eq x1))]
            simp (disch := omega) only [q_indexStr, q_slBoth, Int.toNat_natCast, hgd, hx1, hb2, ↓rk_put4, ↓sxA, ↓wk_store, sxB, sxP, Nat.reduceLeDiff, reduceCtorEq, Nat.reduceEqDiff, Nat.reduceAdd, Int.reduceLT, Int.reduceLE, Int.reduceEq, Nat.reduceLT, Int.reduceToNat, Int.reduceAdd, Int.reduceSub, ↓reduceIte]
            rw [resP_k2]
            simp (disch := omega) only [↓rk_put4, ↓sxA, ↓wk_store, sxB, sxP, Nat.reduceLeDiff, reduceCtorEq, Nat.reduceEqDiff, Nat.reduceAdd, Int.reduceLT, Int.reduceLE, Int.reduceEq, Nat.reduceLT, Int.reduceToNat, Int.reduceAdd, Int.reduceSub, ↓reduceIte]
            exact fin hend _ (((F2p _).put _ (Nat.le_refl _) _).put _ (Nat.le_refl _) _)
          have hx1 : ((d.toNat : Int) = 32) = False := eq_false x1
          by_cases x2 : (d.toNat : Int) = 61
          · have hx2 : ((d.toNat : Int) = 61) = True := eq_true x2
            have hend : pwE s.data.toList j = i := by rw [← i3, pwE_stop (fun y hy => by rw [hd] at hy; cases hy; exact .inr (u8_eq x2))]
            simp (disch := omega) only [q_indexStr, q_slBoth, Int.toNat_natCast, hgd, hx1, hx2, hb2, ↓rk_put4, ↓sxA, ↓wk_store, sxB, sxP, Nat.reduceLeDiff, reduceCtorEq, Nat.reduceEqDiff, Nat.reduceAdd, Int.reduceLT, Int.reduceLE, Int.reduceEq, Nat.reduceLT, Int.reduceToNat, Int.reduceAdd, Int.reduceSub, ↓reduceIte]
            rw [resP_k2]
            simp (disch := omega) only [↓rk_put4, ↓sxA, ↓wk_store, sxB, sxP, Nat.reduceLeDiff, reduceCtorEq, Nat.reduceEqDiff, Nat.reduceAdd, Int.reduceLT, Int.reduceLE, Int.reduceEq, Nat.reduceLT, Int.reduceToNat, Int.reduceAdd, Int.reduceSub, ↓reduceIte]
            exact fin hend _ (((F2p _).put _ (Nat.le_refl _) _).put _ (Nat.le_refl _) _)
          have hx2 : ((d.toNat : Int) = 61) = False := eq_false x2
          have m32 : d ≠ 32 := fun e => x1 (by rw [e]; rfl)
          have m61 : d ≠ 61 := fun e => x2 (by rw [e]; rfl)
          have hdd : (s.data.toList.drop j)[i - j]? = some d := by rw [List.getElem?_drop, show j + (i - j) = i by omega]; exact hd
          have all3 := rk_loadAll (k := 4) hb2 rfl (by decide)
          have bad : prn d = false → ∀ w q to st5, Frm st st5 → K (.tuple #[.agg #[.string w, .bool q, .int .i64 (j : Nat), .int .i64 to], .bool true, .bool false]) st5 := fun hpd w q to st5 hf => by
            refine h _ _ _ _ ?_ hf
            have hlt : i < pwE s.data.toList j := by
              have := (pwE_lt hd m32 m61).1
              rw [i3] at this
              exact this
            have hn : nxt s.data.toList p = .bad j := by
              unfold nxt; rw [hcb, hbj]; simp only
              rw [if_neg n61, if_neg n34, if_neg]
              intro hall
              rw [List.all_eq_true] at hall
              have := hall d (List.mem_of_getElem? (i := i - j) (by rw [List.getElem?_take_of_lt (by omega)]; exact hdd))
              rw [hpd] at this
              cases this
            unfold WdR
            rw [hn]
            exact ⟨rfl, rfl, _, _, _, rfl⟩
          simp (disch := omega) only [q_indexStr, Int.toNat_natCast, hgd, hx1, hx2, ↓sxA, ↓wk_store, sxB, sxP, Nat.reduceLeDiff, reduceCtorEq, Nat.reduceEqDiff, Nat.reduceAdd, Int.reduceLT, Int.reduceLE, Int.reduceEq, Nat.reduceLT, Int.reduceToNat, Int.reduceAdd, Int.reduceSub, ↓reduceIte]
          refine iteI (fun y1 => ?_) (fun y1 => iteI (fun y2 => ?_) (fun y2 => ?_))
          · simp (disch := omega) only [hb2, ↓all3, ↓sxA, ↓wk_store, sxB, sxP, Nat.reduceLeDiff, reduceCtorEq, Nat.reduceEqDiff, Nat.reduceAdd, Int.reduceLT, Int.reduceLE, Int.reduceEq, Nat.reduceLT, Int.reduceToNat, Int.reduceAdd, Int.reduceSub, ↓reduceIte]
            rw [resP_k2]
            simp (disch := omega) only [↓rk_put4, ↓sxA, ↓wk_store, sxB, sxP, Nat.reduceLeDiff, reduceCtorEq, Nat.reduceEqDiff, Nat.reduceAdd, Int.reduceLT, Int.reduceLE, Int.reduceEq, Nat.reduceLT, Int.reduceToNat, Int.reduceAdd, Int.reduceSub, ↓reduceIte]
            exact bad (by simp [prn]; omega) _ _ _ _ (F2p _)
          · simp (disch := omega) only [hb2, ↓all3, ↓sxA, ↓wk_store, sxB, sxP, Nat.reduceLeDiff, reduceCtorEq, Nat.reduceEqDiff, Nat.reduceAdd, Int.reduceLT, Int.reduceLE, Int.reduceEq, Nat.reduceLT, Int.reduceToNat, Int.reduceAdd, Int.reduceSub, ↓reduceIte]
            rw [resP_k2]
            simp (disch := omega) only [↓rk_put4, ↓sxA, ↓wk_store, sxB, sxP, Nat.reduceLeDiff, reduceCtorEq, Nat.reduceEqDiff, Nat.reduceAdd, Int.reduceLT, Int.reduceLE, Int.reduceEq, Nat.reduceLT, Int.reduceToNat, Int.reduceAdd, Int.reduceSub, ↓reduceIte]
            exact bad (by simp [prn]; omega) _ _ _ _ (F2p _)
          · have hpd : prn d = true := by simp [prn]; omega
            refine ⟨_, rfl, ⟨i + 1, by simp, by omega, hi, by rw [← pwE_hit hd m32 m61, i3], ?_⟩, ?_⟩
            · rw [show i + 1 - j = (i - j) + 1 by omega, List.take_add_one, hdd, List.all_append, i4]; simp [hpd]
            · show ((s.size : Int) - ((i : Int) + 1)).toNat < ((s.size : Int) - i).toNat
              omega
        · have hend : pwE s.data.toList j = i := by rw [← i3, pwE_stop (fun y hy => by rw [byte_no s i (by omega)] at hy; cases hy)]
          simp (disch := omega) only [q_slBoth, Int.toNat_natCast, hb2, ↓rk_put4, ↓sxA, ↓wk_store, sxB, sxP, Nat.reduceLeDiff, reduceCtorEq, Nat.reduceEqDiff, Nat.reduceAdd, Int.reduceLT, Int.reduceLE, Int.reduceEq, Nat.reduceLT, Int.reduceToNat, Int.reduceAdd, Int.reduceSub, ↓reduceIte]
          rw [resP_k2]
          simp (disch := omega) only [↓rk_put4, ↓sxA, ↓wk_store, sxB, sxP, Nat.reduceLeDiff, reduceCtorEq, Nat.reduceEqDiff, Nat.reduceAdd, Int.reduceLT, Int.reduceLE, Int.reduceEq, Nat.reduceLT, Int.reduceToNat, Int.reduceAdd, Int.reduceSub, ↓reduceIte]
          exact fin hend _ (((F2p _).put _ (Nat.le_refl _) _).put _ (Nat.le_refl _) _)
    · have hbj : blk s.data.toList p = j := by rw [← j2, blk_stop (by rw [byte_no s j (by omega)]; decide)]
      have hW : WdR s.data.toList p (.agg #[.string .empty, .bool false, .int .i64 0, .int .i64 0]) false true := by
        have hn : nxt s.data.toList p = .fin := by unfold nxt; rw [hbj, byte_no s j (by omega)]
        unfold WdR
        rw [hn]
        exact ⟨rfl, rfl, rfl⟩
      simp (disch := omega) only [hbx, ↓sxA, ↓wk_store, sxB, sxP, Nat.reduceLeDiff, reduceCtorEq, Nat.reduceEqDiff, Nat.reduceAdd, Int.reduceLT, Int.reduceLE, Int.reduceEq, Nat.reduceLT, Int.reduceToNat, Int.reduceAdd, Int.reduceSub, ↓reduceIte]
      rw [resP_k2]
      simp (disch := omega) only [↓rk_put4, ↓sxA, ↓wk_store, sxB, sxP, Nat.reduceLeDiff, reduceCtorEq, Nat.reduceEqDiff, Nat.reduceAdd, Int.reduceLT, Int.reduceLE, Int.reduceEq, Nat.reduceLT, Int.reduceToNat, Int.reduceAdd, Int.reduceSub, ↓reduceIte]
      exact h _ _ _ _ hW (hF _)
end
end Go.Proofs.YtdmemibnphcedaaGreatDoor
end
