/-
  Lists that are too long, and ArgsFormats, on the second machine.
-/
import Derived.Test.YtdmemibnphcedaaGreatDoorRBckClaimPart41
import Derived.Test.YtdmemibnphcedaaGreatDoorRBckClaimPart44
import Derived.Test.YtdmemibnphcedaaGreatDoorRBckClaimPart46
set_option linter.unusedSimpArgs false
set_option linter.unusedVariables false
set_option maxRecDepth 10000
set_option linter.unusedSectionVars false
namespace Go.Proofs.YtdmemibnphcedaaGreatDoor
open Go.Am

def nsOf (rs : List Rec3) : List ByteArray := rs.map (·.nm)
def csOf (rs : List Rec3) : List Cl := rs.map fun r => ⟨r.vals, r.set, false⟩
theorem recs_agC {s : St} {a : Value} {rs : List Rec3} (h : Recs s a rs) : AgC s a (nsOf rs) (csOf rs) := by
 obtain ⟨h1, h2⟩ := h
 have hl : (csOf rs).length = rs.length := by simp [csOf]
 rcases h1 with ⟨⟨x, rfl⟩, rfl⟩ | ⟨b, cap, rfl, hb, hlt⟩
 ·exact ⟨fun K => by rw [pk_lenSl]; rfl, fun j hj => by simp [csOf] at hj⟩
 ·refine ⟨fun K => by rw [pk_lenSl, hl], fun j hj => ?_⟩
  rw [hl] at hj
  have hr : rs[j]? = some rs[j] := List.getElem?_eq_getElem hj
  obtain ⟨c1, c2, c3, c4⟩ := recCells_at rs j _ hr
  obtain ⟨k1, k2, k3⟩ := h2 _ (List.getElem_mem hj)
  have e1 : (nsOf rs).getD j .empty = rs[j].nm := by simp [nsOf, List.getD_eq_getElem?_getD, hj]
  have e2 : clAt (csOf rs) j = ⟨rs[j].vals, rs[j].set, false⟩ := by simp [clAt, csOf, List.getD_eq_getElem?_getD, hj]
  rw [e1, e2]
  refine ⟨b, rs[j].vv, fun K => ?_, k2, k3, fun s' F => ?_⟩
  ·rw [pk_indexAddr]
   have e : (0 : Nat) + (j : Int).toNat * 3 = j * 3 := by omega
   rw [e]
   exact propext ⟨fun h => h.2, fun h => ⟨⟨by omega, by omega⟩, h⟩⟩
  ·have hb' := (F.old b hlt).trans hb
   have ld : ∀ (o : Nat) (x : Value), (recCells rs)[o]? = some x → ∀ K : Value → Prop, ropK .load1 [.pointer (some ⟨b, o, none⟩)] s' K = K x := fun o x hx K => by
    rw [rk_load1, hb']
    simp only [getK, rowK]
    exact nthK_at hx K
   exact ⟨fun K => rk_loadK hb' (k := 3) (xs := rs[j].cells) c4 rfl (by decide) K, ld _ _ c1, ld _ _ c2, ld _ _ c3, k1.keep fun i hi => F.old i (by omega)⟩

/-- how much a list is -/
def valN (l : List ByteArray) : Nat := (l.map fun v => 1 + v.size).sum
def totN (ns : List ByteArray) (cs : List Cl) : Nat → Nat
 | 0 => 0
 | j + 1 => totN ns cs j + (1 + (ns.getD j .empty).size) + valN (clAt cs j).vals
theorem valN_snoc (l : List ByteArray) (v : ByteArray) : valN (l ++ [v]) = valN l + (1 + v.size) := by simp [valN]
theorem valN_len (l : List ByteArray) : l.length ≤ valN l ∧ ∀ v ∈ l, v.size ≤ valN l := by
 induction l with
 | nil => exact ⟨Nat.zero_le _, fun v hv => by cases hv⟩
 | cons x r ih =>
  obtain ⟨i1, i2⟩ := ih
  have e : valN (x :: r) = (1 + x.size) + valN r := by simp [valN]
  rw [e]
  refine ⟨by simp only [List.length_cons]; omega, fun v hv => ?_⟩
  rcases List.mem_cons.1 hv with rfl | hv
  ·omega
  ·have := i2 v hv; omega
theorem totN_mono (ns : List ByteArray) (cs : List Cl) : ∀ {i j : Nat}, i ≤ j → totN ns cs i ≤ totN ns cs j := by
 intro i j h
 induction h with
 | refl => exact Nat.le_refl _
 | step _ ih => simp only [totN]; omega
theorem totN_len (ns : List ByteArray) (cs : List Cl) : ∀ j, j ≤ totN ns cs j
 | 0 => Nat.le_refl _
 | j + 1 => by have := totN_len ns cs j; simp only [totN]; omega

theorem small_of {ns : List ByteArray} {cs : List Cl} (hn : ns.length = cs.length) (h : totN ns cs cs.length ≤ 3000) : SmallN ns cs := by
 have h1 := totN_len ns cs cs.length
 refine ⟨⟨by omega, fun j => ?_⟩, fun j => ?_⟩
 ·by_cases hj : j < cs.length
  ·have h2 := totN_mono ns cs (i := j + 1) (j := cs.length) hj
   simp only [totN] at h2
   obtain ⟨k1, k2⟩ := valN_len (clAt cs j).vals
   exact ⟨by omega, fun v hv => by have := k2 v hv; omega⟩
  ·have e : clAt cs j = Cl.zero := by simp [clAt, List.getD_eq_getElem?_getD, List.getElem?_eq_none (show cs.length ≤ j by omega)]
   rw [e]
   exact ⟨Nat.zero_le _, fun v hv => by cases hv⟩
 ·by_cases hj : j < cs.length
  ·have h2 := totN_mono ns cs (i := j + 1) (j := cs.length) hj
   simp only [totN] at h2
   omega
  ·have e : ns.getD j .empty = .empty := by simp [List.getD_eq_getElem?_getD, List.getElem?_eq_none (show ns.length ≤ j by omega)]
   rw [e]
   exact Nat.zero_le _

def orcU : CallF := callO T0 orc fns 100000 60
theorem orcU_sound : FSound Tryz.prog orcU := callO_sound (by kernel_rfl) T0_ok orc_sound (lookFn_ok fns_ok) 100000 60 T0_dfr
def tblU : List (Nat × GFn) := [(7, g7), (8, g8), (28, g28)]
abbrev fnsU : FuncId → Option AFn := lookFn tblU
theorem fnsU_ok : AllOk Tryz.prog tblU := ⟨g7_ok, g8_ok, g28_ok, trivial⟩
theorem soundU (M n : Nat) : FSound Tryz.prog (callO T0 orcU fnsU M n) := callO_sound (by kernel_rfl) T0_ok orcU_sound (lookFn_ok fnsU_ok) M n T0_dfr

section
variable {st : St} {K : Value → St → Prop} {M : Nat}
theorem kBelowU {f : FuncId} {args : List Value} (n : Nat) (h1 : fnsU f = none) (h : callK (callO T0 orc fns 100000 60) f args st K) : callK (callO T0 orcU fnsU M n) f args st K := by
 rw [callO_none h1]
 exact h
end
attribute [local irreducible] callO wopK ropK popK opK grpsE listE sx Runs

section
variable {st : St} {K : Value → St → Prop}

/-- the bound that a statement leaves -/
structure Bulk (B : Nat) (ns : List ByteArray) (cs : List Cl) : Prop where
 len : cs.length ≤ B
 nm : ∀ j, (ns.getD j .empty).size ≤ B
 vl : ∀ j, (clAt cs j).vals.length ≤ B ∧ ∀ v ∈ (clAt cs j).vals, v.size ≤ B

set_option maxHeartbeats 4000000 in
theorem kLong (n : Nat) {av : Value} {ns : List ByteArray} {cs : List Cl} (hA : AgC st av ns cs) (hB : Bulk 1048576 ns cs) (h1 : K (.bool true) st) (h2 : totN ns cs cs.length ≤ 3000 → K (.bool false) st) :
  callK (callO T0 orcU fnsU 2000000 (n + 1)) 28 [av] st K := by
 refine fn_runs (fn := g28) ?_ ?_ ?_
 ·rfl
 ·rfl
 unfold g28
 have lc := hA.1
 have hcl := hB.len
 simp (disch := omega) only [↓sxA, ↓wk_store, sxB, sxP, simprocAttr]
 refine loop_rule [0, 3, 4] (fun vs s => s = st ∧ ∃ (j x : Nat), vs = [av, .int .i64 (x : Nat), .int .i64 (j : Nat)] ∧ j ≤ cs.length ∧ x = totN ns cs j ∧ x ≤ 8000000000000) (fun vs _ => match lget vs 2 with
   | .int _ k => ((cs.length : Int) - k).toNat
   | _ => 0) ?_ ?_ ?_
 ·rfl
 ·refine ⟨_, rfl, ⟨rfl, 0, 0, rfl, Nat.zero_le _, rfl, Nat.zero_le _⟩, ?_⟩
  show ((cs.length : Int) - 0).toNat < 2000000
  omega
 ·rintro vs s ⟨rfl, j, x, rfl, hj, hx, hx8⟩
  show sx _ _ _ _ _ [(0, _), (3, _), (4, _)] _ _ _ _
  by_cases hjl : j < cs.length
  ·by_cases hx3 : x ≤ 3000
   case neg =>
    simp (disch := omega) only [↓sxA, ↓wk_store, sxB, sxP, simprocAttr, ↓lc]
    exact h1
   obtain ⟨b2, vv, c1, c2, c3, c4⟩ := hA.2 j hjl
   obtain ⟨_, c6, c7, _, c9⟩ := c4 s (Frm.refl _)
   have hnm := hB.nm j
   obtain ⟨hv1, hv2⟩ := hB.vl j
   have nv := len_cel c9
   have iv := idx_cel c9
   have lv := load_cel c9
   rw [List.length_map] at nv iv lv
   have htot : totN ns cs (j + 1) = totN ns cs j + (1 + (ns.getD j .empty).size) + valN (clAt cs j).vals := rfl
   generalize ns.getD j .empty = nm at c6 hnm htot
   generalize (clAt cs j).vals = vals at hv1 hv2 nv iv lv htot
   simp (disch := omega) only [↓sxA, ↓wk_store, sxB, sxP, simprocAttr, ↓lc, ↓c1, ↓c6]
   refine loop_rule [0, 3, 4, 5] (fun vs s' => s' = s ∧ ∃ (k y : Nat), vs = [av, .int .i64 (y : Nat), .int .i64 (j : Nat), .int .i64 (k : Nat)] ∧ k ≤ vals.length ∧ y = x + (1 + nm.size) + valN (vals.take k) ∧ y ≤ 4000000 + 1048577 * k) (fun vs _ => match lget vs 3 with
     | .int _ k => ((vals.length : Int) - k).toNat
     | _ => 0) ?_ ?_ ?_
   ·rfl
   ·refine ⟨_, rfl, ⟨rfl, 0, x + 1 + nm.size, by simp, Nat.zero_le _, by simp [valN]; omega, by omega⟩, ?_⟩
    show ((vals.length : Int) - 0).toNat < 2000000
    omega
   rintro vs s' ⟨rfl, k, y, rfl, hk, hy, hyb⟩
   show sx _ _ _ _ _ [(0, _), (3, _), (4, _), (5, _)] _ _ _ _
   by_cases hkl : k < vals.length
   ·have e := getD_str vals k hkl
    have hm : vals.getD k .empty ∈ vals := by rw [List.getD_eq_getElem?_getD, List.getElem?_eq_getElem hkl, Option.getD_some]; exact List.getElem_mem hkl
    have htk : vals.take (k + 1) = vals.take k ++ [vals.getD k .empty] := by
     rw [List.take_add_one, List.getElem?_eq_getElem hkl, List.getD_eq_getElem?_getD, List.getElem?_eq_getElem hkl]
     rfl
    generalize vals.getD k .empty = z at e hm htk
    have hz := hv2 z hm
    have ld2 : ∀ K : Value → Prop, ropK .load1 [bptr vv (k : Int)] s' K = K (.string z) := fun K => by rw [lv k K (by omega) (by omega), Int.toNat_natCast, e]
    simp (disch := omega) only [↓sxA, ↓wk_store, sxB, sxP, simprocAttr, ↓c1, ↓c7, ↓nv, ↓iv, ↓ld2]
    refine ⟨_, rfl, ⟨k + 1, y + 1 + z.size, by simp, hkl, ?_, by omega⟩, ?_⟩
    ·rw [htk, valN_snoc, hy]; omega
    ·show ((vals.length : Int) - ((k : Int) + 1)).toNat < ((vals.length : Int) - (k : Int)).toNat
     omega
   ·have hke : k = vals.length := by omega
    rw [hke, List.take_length] at hy
    simp (disch := omega) only [↓sxA, ↓wk_store, sxB, sxP, simprocAttr, ↓c1, ↓c7, ↓nv]
    refine ⟨_, rfl, ⟨j + 1, y, rfl, hjl, by rw [htot, hy, hx], ?_⟩, ?_⟩
    ·have : 1048577 * k ≤ 1048577 * 1048576 := Nat.mul_le_mul_left _ (by omega)
     omega
    ·show ((cs.length : Int) - ((j : Int) + 1)).toNat < ((cs.length : Int) - (j : Int)).toNat
     omega
  ·have hje : j = cs.length := by omega
   by_cases hx3 : x ≤ 3000
   ·simp (disch := omega) only [↓sxA, ↓wk_store, sxB, sxP, simprocAttr, ↓lc]
    exact h2 (by rw [← hje, ← hx]; exact hx3)
   ·simp (disch := omega) only [↓sxA, ↓wk_store, sxB, sxP, simprocAttr, ↓lc]
    exact h1

end
end Go.Proofs.YtdmemibnphcedaaGreatDoor
