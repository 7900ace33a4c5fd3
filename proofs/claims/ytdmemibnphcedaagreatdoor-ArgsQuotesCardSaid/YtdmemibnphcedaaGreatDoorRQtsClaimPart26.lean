/-
  The program's find and free.
  The program's give and rest.
  The program's name: what stands behind an item's name.
  The program's name, walked.
  The program's step: the next word.
  The program's Fit.
  The chapter's small functions: lower, known, rest, open, Number.
  The chapter's next.
-/
import Derived.Test.YtdmemibnphcedaaGreatDoorRQtsClaimPart25
section
set_option linter.unusedSimpArgs false
set_option linter.unusedVariables false
set_option maxRecDepth 10000
set_option linter.unusedSectionVars false
namespace Go.Proofs.YtdmemibnphcedaaGreatDoor
open Go.Am
attribute [local irreducible] callO wopK ropK popK opK grpsE listE sx Runs

def nm0 (x : IM) : ByteArray := x.names.headD .empty

/-- the fitter: where its parts are -/
structure FtR (s0 st : St) (bf : Nat) (lv : Value) (s : ByteArray) (l : List IM) (p : Nat) (cs : List Cl) : Prop where
  frm : Frm s0 st
  bf1 : s0.next ≤ bf
  bf2 : bf < st.next
  items : ItR 1 s0 lv l
  len : cs.length = l.length
  body : ∃ ov bn g, st.get bf = some (.row [lv, .string s, .int .i64 (p : Nat), ov, .slice (some ⟨bn, 0, none⟩) l.length l.length] 0 false) ∧ AgR (fun n => s0.next + 1 ≤ n ∧ n ≠ bf + 1 ∧ n ≠ bn + 1) true st ov (l.map nm0) cs ∧
    st.get bn = some (.row (cs.map fun c => .bool c.nm) g false) ∧ s0.next ≤ bn ∧ bn < st.next ∧ bn ≠ bf

section
variable {s0 st st' : St} {bf p : Nat} {lv : Value} {s : ByteArray} {l : List IM} {cs : List Cl}
theorem FtR.keep (h : FtR s0 st bf lv s l p cs) (k : Frm st st') : FtR s0 st' bf lv s l p cs := by
  obtain ⟨ov, bn, g, b1, b2, b3, b4, b5, b6⟩ := h.body
  refine ⟨h.frm.trans k, h.bf1, Nat.lt_of_lt_of_le h.bf2 k.nx, h.items, h.len, ov, bn, g, (k.old _ h.bf2).trans b1, b2.keep k.nx fun i _ hi => k.old i hi, (k.old _ b5).trans b3, b4, Nat.lt_of_lt_of_le b5 k.nx, b6⟩
theorem FtR.its (h : FtR s0 st bf lv s l p cs) : ItR 1 st lv l := h.items.keep h.frm.nx fun i _ hi => h.frm.old i hi
theorem FtR.box (h : FtR s0 st bf lv s l p cs) : ∃ ov nv, st.get bf = some (.row [lv, .string s, .int .i64 (p : Nat), ov, nv] 0 false) := by
  obtain ⟨ov, bn, g, b1, _⟩ := h.body
  exact ⟨_, _, b1⟩
end

section
variable {st : St} {v : Value} {K : Value → St → Prop} {xs : List ByteArray} {x : ByteArray}

end
end Go.Proofs.YtdmemibnphcedaaGreatDoor
end
section
set_option linter.unusedSimpArgs false
set_option linter.unusedVariables false
set_option maxRecDepth 10000
set_option linter.unusedSectionVars false
namespace Go.Proofs.YtdmemibnphcedaaGreatDoor
open Go.Am
attribute [local irreducible] callO wopK ropK popK opK grpsE listE sx Runs

theorem AgR.okv {ok : Nat → Prop} {g : Bool} {st : St} {v : Value} {ns : List ByteArray} {cs : List Cl} (h : AgR ok g st v ns cs) : (ow v = 0 ∨ ok (ow v)) ∧ ow v ≤ st.next := by
  obtain ⟨es, vf, h1, h2, h3, _⟩ := h
  exact ⟨h2, h3⟩

theorem GroK.ceq {esz n : Nat} {st : St} {v : Value} {cs : List Value} (h : GroK esz st v cs n) : cellEq v v = true := by
  rcases h with ⟨h1, _⟩ | ⟨b, cap, h1, _⟩ <;> subst h1 <;> exact one_eqSlice _ _ _
theorem AgR.ceq {ok : Nat → Prop} {g : Bool} {st : St} {v : Value} {ns : List ByteArray} {cs : List Cl} (h : AgR ok g st v ns cs) : cellEq v v = true := by
  obtain ⟨es, vf, h1, _⟩ := h
  exact h1.ceq
/-- a cell is read again, and is as it was -/
theorem again {st : St} {b o : Nat} {v : Value} (hl : ∀ K : Value → Prop, ropK .load1 [.pointer (some ⟨b, o, none⟩)] st K = K v) (hc : cellEq v v = true) (W : Prop) : (getK (st.get b) fun ob => rowK ob fun cs _ _ => nthK cs o fun u => cellEq u v = true ∧ W) = W := by
  have := hl fun u => cellEq u v = true ∧ W
  rw [rk_load1] at this
  rw [this, hc]
  simp

section
variable {st : St} {K : Value → St → Prop}
theorem FtR.move {s0 s1 : St} {bf p p' : Nat} {lv ov nv : Value} {s : ByteArray} {l : List IM} {cs : List Cl} (hF : FtR s0 s1 bf lv s l p cs) (hb : s1.get bf = some (.row [lv, .string s, .int .i64 (p : Nat), ov, nv] 0 false)) : FtR s0 (s1.put bf (some (.row [lv, .string s, .int .i64 (p' : Nat), ov, nv] 0 false))) bf lv s l p' cs := by
  obtain ⟨ov', bn, g, b1, b2, b3, b4, b5, b6⟩ := hF.body
  rw [b1] at hb
  cases hb
  refine ⟨hF.frm.put _ hF.bf1 _, hF.bf1, hF.bf2, hF.items, hF.len, ov, bn, g, get_put_same _ _ _, b2.keep (Nat.le_refl _) fun i hi _ => get_put_ne _ _ _ _ (by omega), (get_put_ne _ _ _ _ (Ne.symm b6)).trans b3, b4, b5, b6⟩

theorem trimE_le (l : List UInt8) : (trimE l).length ≤ l.length := by
  unfold trimE
  rw [List.length_reverse]
  have := (List.dropWhile_sublist (· == (32 : UInt8)) (l := l.reverse)).length_le
  rw [List.length_reverse] at this
  exact this

end
end Go.Proofs.YtdmemibnphcedaaGreatDoor
end
section
set_option linter.unusedSimpArgs false
set_option linter.unusedVariables false
set_option maxRecDepth 10000
set_option linter.unusedSectionVars false
namespace Go.Proofs.YtdmemibnphcedaaGreatDoor
open Go.Am
attribute [local irreducible] callO wopK ropK popK opK grpsE listE sx Runs

def Cl.nam (c : Cl) : Cl := ⟨c.vals, c.set, true⟩
def Cl.put (c : Cl) : Cl := ⟨c.vals, true, c.nm⟩

theorem map_upd (cs : List Cl) (k : Nat) (f : Cl → Cl) (hk : k < cs.length) : (upd' cs k f).map (fun c => Value.bool c.nm) = (cs.map fun c => Value.bool c.nm).set k (.bool (f (clAt cs k)).nm) := by
  unfold upd'
  rw [List.map_set]
theorem map_at (cs : List Cl) (k : Nat) (hk : k < cs.length) : (cs.map fun c => Value.bool c.nm)[k]? = some (.bool (clAt cs k).nm) := by
  rw [List.getElem?_map, List.getElem?_eq_getElem hk]
  simp [clAt, List.getD_eq_getElem?_getD, List.getElem?_eq_getElem hk]

section
variable {s0 st : St} {bf p k : Nat} {lv : Value} {s : ByteArray} {l : List IM} {cs : List Cl}
/-- what may be read of the fitter, and how an item is named, and set -/
theorem FtR.open (hF : FtR s0 st bf lv s l p cs) (hk : k < l.length) : ∃ ov bn b s1 s2, st.get bf = some (.row [lv, .string s, .int .i64 (p : Nat), ov, .slice (some ⟨bn, 0, none⟩) l.length l.length] 0 false) ∧
    (∀ K : Value → Prop, popK (.indexAddr 1) [.slice (some ⟨bn, 0, none⟩) l.length l.length, .int .i64 (k : Int)] K = K (.pointer (some ⟨bn, k, none⟩))) ∧ (∀ K : Value → Prop, ropK .load1 [.pointer (some ⟨bn, k, none⟩)] st K = K (.bool (clAt cs k).nm)) ∧
    (∀ K : Value → Prop, popK (.indexAddr 3) [ov, .int .i64 (k : Int)] K = K (.pointer (some ⟨b, k * 3, none⟩))) ∧ (∀ K : Value → Prop, ropK .load1 [.pointer (some ⟨b, k * 3 + 2, none⟩)] st K = K (.bool (clAt cs k).set)) ∧
    (∀ W : Value → St → Prop, wopK (.store 1) [.pointer (some ⟨bn, k, none⟩), .bool true] st W = W undef s1) ∧ FtR s0 s1 bf lv s l p (upd' cs k Cl.nam) ∧ s1.next = st.next ∧ (∀ i, i ≠ bn → s1.get i = st.get i) ∧ s0.next ≤ bn ∧ bn < st.next ∧ bn ≠ bf ∧
    (∀ W : Value → St → Prop, wopK (.store 1) [.pointer (some ⟨b, k * 3 + 2, none⟩), .bool true] st W = W undef s2) ∧ FtR s0 s2 bf lv s l p (upd' cs k Cl.put) := by
  obtain ⟨ov, bn, g, q1, q2, q3, q4, q5, q6⟩ := hF.body
  have hcl := hF.len
  obtain ⟨b, vv, o1, o2, o3, o4, o5, o6, o7, o8, o9⟩ := q2.at (j := k) (by omega)
  obtain ⟨s2, z1, z2, z3, z4⟩ := q2.put_set (j := k) (by omega) Cl.put (fun c => ⟨rfl, rfl⟩) o1
  obtain ⟨okv, onx⟩ := q2.okv
  have okb : s0.next + 1 ≤ b + 1 ∧ b + 1 ≠ bf + 1 ∧ b + 1 ≠ bn + 1 := by
    rcases okv with e | e
    · omega
    · rw [o1] at e; exact e
  have hl : k < (cs.map fun c => Value.bool c.nm).length := by rw [List.length_map]; omega
  have hF2 := hF.bf2
  have hF1 := hF.bf1
  have hfx := hF.frm.nx
  refine ⟨ov, bn, b, st.put bn (some (.row (lputs (cs.map fun c => Value.bool c.nm) k [.bool true]) g false)), s2, q1, fun K => ?_, fun K => ?_, o2, o6, fun W => ?_, ?_, rfl, fun i hi => get_put_ne _ _ _ _ (Ne.symm hi), q4, q5, q6, z1, ?_⟩
  · rw [pk_indexAddr]
    have e : (0 : Nat) + (k : Int).toNat * 1 = k := by omega
    rw [e]
    exact propext ⟨fun h => h.2, fun h => ⟨⟨by omega, by omega⟩, h⟩⟩
  · rw [rk_load1, q3]
    simp only [getK, rowK]
    exact nthK_at (map_at cs k (by omega)) K
  · rw [wk_store, q3]
    simp only [getK, rowK]
    exact propext ⟨fun h => h.2.2, fun h => ⟨rfl, ⟨by first | trivial | rfl, by omega, by rfl⟩, h⟩⟩
  · refine ⟨hF.frm.put _ q4 _, hF1, hF2, hF.items, by rw [upd_len]; exact hcl, ov, bn, g, (get_put_ne _ _ _ _ q6).trans q1, ?_, ?_, q4, q5, q6⟩
    · have h := q2.keep (st' := st.put bn (some (.row (lputs (cs.map fun c => Value.bool c.nm) k [.bool true]) g false))) (Nat.le_refl _) fun i hi _ => get_put_ne _ _ _ _ (by omega)
      obtain ⟨es, vf, h1, h2, h3, h4, h5⟩ := h
      refine ⟨es, vf, by rw [upd_len]; exact h1, h2, h3, fun j hj => ?_, fun j hj => ?_⟩
      · rw [upd_len] at hj
        obtain ⟨a1, a2, a3⟩ := h4 j hj
        refine ⟨a1, a2, ?_⟩
        by_cases e : k = j
        · subst e; rw [upd_same _ _ _ hj]; exact a3
        · rw [upd_ne _ _ _ _ e]; exact a3
      · rw [upd_len] at hj ⊢
        have e : (clAt (upd' cs k Cl.nam) j).vals = (clAt cs j).vals := by
          by_cases e : k = j
          · subst e; rw [upd_same _ _ _ hj]; rfl
          · rw [upd_ne _ _ _ _ e]
        rw [e]
        exact h5 j hj
    · rw [map_upd _ _ _ (by omega), get_put_same]
      congr 2
      refine List.ext_getElem? fun i => ?_
      rw [lput1_get _ _ _ hl]
      by_cases e : i = k
      · subst e; rw [if_pos rfl, List.getElem?_set_self hl]; rfl
      · rw [if_neg e, List.getElem?_set_ne (Ne.symm e)]
  · have hov : ∀ i, i ≠ b → s2.get i = st.get i := z4
    refine ⟨⟨by omega, fun i hi => (hov i (by omega)).trans (hF.frm.old i hi)⟩, hF1, by omega, hF.items, by rw [upd_len]; exact hcl, ov, bn, g, (hov _ (by omega)).trans q1, z2, ?_, q4, by omega, q6⟩
    rw [hov _ (by omega), q3, map_upd _ _ _ (by omega)]
    congr 2
    refine List.ext_getElem? fun i => ?_
    by_cases e : k = i
    · subst e; rw [List.getElem?_set_self hl, map_at cs k (by omega)]; rfl
    · rw [List.getElem?_set_ne e]
end

end Go.Proofs.YtdmemibnphcedaaGreatDoor
end
section
set_option linter.unusedSimpArgs false
set_option linter.unusedVariables false
set_option maxRecDepth 10000
set_option linter.unusedSectionVars false
namespace Go.Proofs.YtdmemibnphcedaaGreatDoor
open Go.Am
attribute [local irreducible] callO wopK ropK popK opK grpsE listE sx Runs

section
variable {st : St} {K : Value → St → Prop}

theorem quo_len : ∀ (l : List UInt8) (s : List UInt8) (k : Nat), quo l = some (s, k) → s.length ≤ l.length
  | [], s, k, h => by simp [quo] at h
  | [c], s, k, h => by
    simp only [quo] at h
    split at h
    · cases h; simp
    · cases h
  | c :: d :: r, s, k, h => by
    simp only [quo] at h
    split at h
    · split at h
      · cases h; simp
      · cases h
    · split at h
      · cases h
      · split at h
        · simp only [Option.map_eq_some_iff] at h
          obtain ⟨⟨s', k'⟩, h1, h2⟩ := h
          cases h2
          have := quo_len r s' k' h1
          simp; omega
        · split at h
          · simp only [Option.map_eq_some_iff] at h
            obtain ⟨⟨s', k'⟩, h1, h2⟩ := h
            cases h2
            have := quo_len r s' k' h1
            simp; omega
          · simp only [Option.map_eq_some_iff] at h
            obtain ⟨⟨s', k'⟩, h1, h2⟩ := h
            cases h2
            have := quo_len (d :: r) s' k' h1
            simp at this ⊢; omega
theorem nxt_len {L : List UInt8} {p : Nat} {w : List UInt8} {q : Bool} {fr to : Nat} (h : nxt L p = .wd w q fr to) : w.length ≤ L.length + 1 := by
  unfold nxt at h
  split at h
  · cases h
  · split at h
    · cases h; simp
    · split at h
      · split at h
        · rename_i x hx
          cases h
          have := quo_len _ x.1 x.2 hx
          rw [List.length_drop] at this
          omega
        · cases h
      · split at h
        · cases h
          rw [List.length_take, List.length_drop]
          omega
        · cases h
end
end Go.Proofs.YtdmemibnphcedaaGreatDoor
end
section
set_option linter.unusedSimpArgs false
set_option linter.unusedVariables false
set_option maxRecDepth 10000
set_option linter.unusedSectionVars false
namespace Go.Proofs.YtdmemibnphcedaaGreatDoor
open Go.Am
attribute [local irreducible] callO wopK ropK popK opK grpsE listE sx Runs

section
variable {st : St} {K : Value → St → Prop}

end
end Go.Proofs.YtdmemibnphcedaaGreatDoor
end
section
set_option linter.unusedSimpArgs false
set_option linter.unusedVariables false
set_option maxRecDepth 10000
set_option linter.unusedSectionVars false
namespace Go.Proofs.YtdmemibnphcedaaGreatDoor
open Go.Am
attribute [local irreducible] callO wopK ropK popK opK grpsE listE sx Runs

theorem one_cells {v : Value} (h : oneCell v = true) : cellsOf v = [v] := by
  cases v <;> first | rfl | (simp [oneCell] at h)
theorem AgR.one {ok : Nat → Prop} {g : Bool} {st : St} {v : Value} {ns : List ByteArray} {cs : List Cl} (h : AgR ok g st v ns cs) : oneCell v = true := by
  obtain ⟨es, vf, h1, _⟩ := h
  exact h1.one
theorem ItR.one {lo : Nat} {st : St} {v : Value} {l : List IM} (h : ItR lo st v l) : oneCell v = true := by
  obtain ⟨nvs, h1, h2, _⟩ := h
  exact h2.one
section
variable {st : St} {K : Value → St → Prop}

end
end Go.Proofs.YtdmemibnphcedaaGreatDoor
end
section
set_option linter.unusedSimpArgs false
set_option linter.unusedVariables false
set_option maxRecDepth 10000
set_option linter.unusedSectionVars false
namespace Go.Proofs.YtdmemibnphcedaaGreatDoor
open Go.Am
attribute [local irreducible] callO wopK ropK popK opK grpsE listE sx Runs

section
variable {st : St} {K : Value → St → Prop}

theorem wrap64 (a : Int) (h0 : -9223372036854775808 ≤ a) (h1 : a ≤ 9223372036854775807) : wrapF .i64 a = a := by
  simp only [wrapF]
  rw [if_pos ⟨h0, h1⟩]
theorem Cel.ceq {v : Value} {cs : List Value} (h : Cel st v cs) : cellEq v v = true := by
  rcases h with ⟨h1, _⟩ | ⟨b, o, cap, xs, g, ro, h1, _⟩ | ⟨n, h1, _⟩ <;> subst h1 <;> exact one_eqSlice _ _ _

end
end Go.Proofs.YtdmemibnphcedaaGreatDoor
end
section
set_option linter.unusedSimpArgs false
set_option linter.unusedVariables false
set_option maxRecDepth 10000
set_option linter.unusedSectionVars false
namespace Go.Proofs.YtdmemibnphcedaaGreatDoor
open Go.Am

section
variable {L : List UInt8} {i : Nat} {c d : UInt8}
end

attribute [local irreducible] callO wopK ropK popK opK grpsE listE sx Runs

section
variable {st : St} {K : Value → St → Prop}

end
end Go.Proofs.YtdmemibnphcedaaGreatDoor
end
