/-
  ShellFills: the law, over its parts.
-/
import Derived.Test.YtjomiadmminhfaaGreatDoorSFilClaimPart38
import Derived.Test.YtjomiadmminhfaaGreatDoorSFilClaimPart36
import Derived.Test.YtjomiadmminhfaaGreatDoorSFilClaimPart42
import Derived.Test.YtjomiadmminhfaaGreatDoorSFilClaimPart40
set_option linter.unusedSectionVars false
set_option linter.unusedVariables false
set_option linter.unusedSimpArgs false
set_option maxRecDepth 10000
namespace Go.Proofs.YtjomiadmminhfaaGreatDoor
open Go.Am
open Go.RowKit

/-! ### rows taken in, in a later world -/
theorem cell_below {C : Nat} {w w' : World} (hb : Below C w w') (a : Addr) (h : a.block < C) : w'.cell? a = w.cell? a := by
 unfold World.cell?
 rw [hb.block _ h]
theorem Rel.rebase {W0 w w' : World} {μ : Nat → Spot} {s : St} (h : Rel w.heap.size W0 μ s w) (hb : Below w.heap.size w w') : Rel w'.heap.size w' μ s w' := by
 have ro : ∀ i o, s.get i = some o → ∃ cs g, o = .row cs g true := by
  intro i o ho
  obtain ⟨h1, h2, h3⟩ := h.known i o ho
  cases o with
  | row cs g ro =>
   cases ro with
   | true => exact ⟨cs, g, rfl⟩
   | false =>
    have := (h3.2.2.2.2 rfl).1
    omega
  | map es clock => have := h3.1; omega
  | strIter s pos => have := h3.1; omega
  | mapIter m since seen last => have := h3.1; omega
 refine ⟨Nat.le_refl _, Below.refl _ _, fun i o ho => ?_, fun i j oi oj hij hi hj h1 h2 => ?_⟩
 ·obtain ⟨cs, g, rfl⟩ := ro i o ho
  obtain ⟨h1, h2, h3, h4, h5, h6, h7⟩ := h.known i _ ho
  have hsz := hb.size
  refine ⟨h1, by omega, h3, h4, fun j v hj => ?_, fun _ => .inl (by omega), fun e => by cases e⟩
  obtain ⟨v', c1, c2⟩ := h5 j v hj
  exact ⟨v', by rw [cell_below hb _ h2]; exact c1, c2⟩
 ·obtain ⟨cs, g, rfl⟩ := ro i oi hi
  cases h1

def nsOf (rs : List Rec3) : List ByteArray := rs.map (·.nm)
def csOf (rs : List Rec3) : List Cl := rs.map fun r => ⟨r.vals, r.set, false⟩
theorem recs_agC {s : St} {a : Value} {rs : List Rec3} (h : Recs s a rs) : AgC s a (nsOf rs) (csOf rs) := by
 obtain ⟨h1, h2⟩ := h
 have hl : (csOf rs).length = rs.length := by simp [csOf]
 rcases h1 with ⟨⟨x, rfl⟩, rfl⟩ | ⟨b, cap, rfl, hb, hlt⟩
 ·exact ⟨fun K => by rw [pk_lenSl]; rfl, fun j hj => by simp [csOf] at hj⟩
 ·refine ⟨fun K => by rw [pk_lenSl, hl], fun j hj => ?_⟩
  rw [hl] at hj
  have hr : rs[j]? = some rs[j] := List.getElem?_eq_getElem hj
  obtain ⟨c1, c2, c3, c4⟩ := recCells_at rs j _ hr
  obtain ⟨k1, k2, k3⟩ := h2 _ (List.getElem_mem hj)
  have e1 : (nsOf rs).getD j .empty = rs[j].nm := by simp [nsOf, List.getD_eq_getElem?_getD, hj]
  have e2 : clAt (csOf rs) j = ⟨rs[j].vals, rs[j].set, false⟩ := by simp [clAt, csOf, List.getD_eq_getElem?_getD, hj]
  rw [e1, e2]
  refine ⟨b, rs[j].vv, fun K => ?_, k2, k3, fun s' F => ?_⟩
  ·rw [pk_indexAddr]
   have e : (0 : Nat) + (j : Int).toNat * 3 = j * 3 := by omega
   rw [e]
   exact propext ⟨fun h => h.2, fun h => ⟨⟨by omega, by omega⟩, h⟩⟩
  ·have hb' := (F.old b hlt).trans hb
   have ld : ∀ (o : Nat) (x : Value), (recCells rs)[o]? = some x → ∀ K : Value → Prop, ropK .load1 [.pointer (some ⟨b, o, none⟩)] s' K = K x := fun o x hx K => by
    rw [rk_load1, hb']
    simp only [getK, rowK]
    exact nthK_at hx K
   exact ⟨fun K => rk_loadK hb' (k := 3) (xs := rs[j].cells) c4 rfl (by decide) K, ld _ _ c1, ld _ _ c2, ld _ _ c3, k1.keep fun i hi => F.old i (by omega)⟩
/-- the bound that a statement leaves -/
structure Bulk (B : Nat) (ns : List ByteArray) (cs : List Cl) : Prop where
 len : cs.length ≤ B
 nm : ∀ j, (ns.getD j .empty).size ≤ B
 vl : ∀ j, (clAt cs j).vals.length ≤ B ∧ ∀ v ∈ (clAt cs j).vals, v.size ≤ B
theorem Bulk.vlF {B : Nat} {ns : List ByteArray} {cs : List Cl} (h : Bulk B ns cs) (j : Nat) (o : List UInt8) : (vlF (clAt cs j).vals (clAt cs j).set (ns.getD j .empty) o).length ≤ B + o.length := by
 unfold Proofs.YtjomiadmminhfaaGreatDoor.vlF
 have h1 := h.nm j
 rw [size_list] at h1
 have h2 := (h.vl j).2
 cases hv : (clAt cs j).vals with
 | nil =>
  simp only
  split <;> omega
 | cons v vs =>
  have := h2 v (by rw [hv]; simp)
  rw [size_list] at this
  simp only
  omega
theorem Bulk.itQ {B : Nat} {ns : List ByteArray} {cs : List Cl} (h : Bulk B ns cs) (L : List UInt8) : (itQ (valF ns cs) L).1.length ≤ B + L.length := by
 unfold Proofs.YtjomiadmminhfaaGreatDoor.itQ
 cases hi : itemP (valF ns cs) (L.drop 1) with
 | none => exact Nat.zero_le _
 | some x =>
  obtain ⟨v, rest⟩ := x
  show v.length ≤ _
  unfold itemP at hi
  have tl : ((L.drop 1).takeWhile no62).length ≤ L.length := by
   have h1 := (List.takeWhile_prefix (p := no62) (l := L.drop 1)).length_le
   rw [List.length_drop] at h1
   omega
  have dl : ((((L.drop 1).takeWhile no62).dropWhile no36).drop 1).length ≤ L.length := by
   have h1 := (List.dropWhile_suffix (p := no36) (l := (L.drop 1).takeWhile no62)).length_le
   rw [List.length_drop]
   omega
  cases hd : (L.drop 1).dropWhile no62 with
  | nil => rw [hd] at hi; cases hi
  | cons y r' =>
   rw [hd] at hi
   simp only at hi
   by_cases hq : (((L.drop 1).takeWhile no62).takeWhile no36).all sml = true
   ·rw [if_pos hq] at hi
    simp only [Option.map_eq_some_iff, Prod.mk.injEq] at hi
    obtain ⟨f, hf, e, _⟩ := hi
    unfold valF at hf
    split at hf
    ·cases hf
    ·cases hf
     have := h.vlF (nmI (bs (((L.drop 1).takeWhile no62).takeWhile no36)) ns 0).toNat ((((L.drop 1).takeWhile no62).dropWhile no36).drop 1)
     rw [← e]
     refine Nat.le_trans this ?_
     omega
   ·rw [if_neg hq] at hi
    cases hi

theorem soundC (n : Nat) : FSound Tryz.prog (callO T0 orc fns 100000 n) := callO_sound (by kernel_rfl) T0_ok orc_sound (lookFn_ok fns_ok) 100000 n T0_dfr

attribute [local irreducible] callO wopK ropK popK opK grpsE listE sx Runs

section
variable {W : World} {μ : Nat → Spot} {s : St} {a x : Value} {ns : List ByteArray} {cs : List Cl}
theorem item_calls (hr : Rel W.heap.size W μ s W) (hg : Glob Tryz.prog μ s.next) (ha : VR μ s.next a x) (h0 : 0 < s.next) (hm : hasMax s = true) (hA : AgC s a ns cs) (hns : ns.length = cs.length) (hl : cs.length < 90000)
  (L : ByteArray) (w1 : World) (hL : L.size ≤ 80000) (h60 : L.data.toList[0]? = some 60) (hb : Below W.heap.size W w1) :
  Calls Tryz.prog 27 #[.string L, x] w1 fun e w2 => e = .returned (itV (itQ (valF ns cs) L.data.toList)) ∧ Below w1.heap.size w1 w2 := by
 have hrun := kItem (K := fun v _ => v = itV (itQ (valF ns cs) L.data.toList)) 55 L hL h60 h0 hm hA hns hl fun _ => rfl
 have walk := calls_of_run (soundC 60) (Q := fun r => r.1 = itV (itQ (valF ns cs) L.data.toList)) hrun (Rel.rebase hr hb) hg (args := [.string L, x]) (.cons _ _ _ _ (.string L) (.cons _ _ _ _ ha .nil))
 refine walk.mono fun e W' hh => ?_
 obtain ⟨v, s', v', k1, k2, μ', _, k3, k4⟩ := hh
 simp only at k1
 subst k1
 unfold itV at k4
 cases k4 with
 | tuple _ x' h =>
  obtain ⟨x'⟩ := x'
  cases h with
  | cons _ _ _ _ h1 h2 =>
   cases h1
   cases h2 with
   | cons _ _ _ _ h3 h4 =>
    cases h3
    cases h4
    exact ⟨k2, k3.below⟩
theorem fillR_calls (hr : Rel W.heap.size W μ s W) (hg : Glob Tryz.prog μ s.next) (ha : VR μ s.next a x) (hA : AgC s a ns cs) (hns : ns.length = cs.length) (hl : cs.length < 90000) (hB : Bulk 1048576 ns cs)
  (L : ByteArray) (w1 : World) (hL : L.size ≤ 80000) (hb : Below W.heap.size W w1) :
  Calls Tryz.prog 12 #[.string L, x] w1 fun e w2 => e = .returned (.string (bs (fillL (valF ns cs) L.data.toList))) ∧ Below w1.heap.size w1 w2 := by
 have hrun := kFillR (K := fun v _ => v = .string (bs (fillL (valF ns cs) L.data.toList))) 58 L hL hA hns hl hB.vlF (by decide) fun _ _ => rfl
 have walk := calls_of_run (soundC 60) (Q := fun r => r.1 = .string (bs (fillL (valF ns cs) L.data.toList))) hrun (Rel.rebase hr hb) hg (args := [.string L, x]) (.cons _ _ _ _ (.string L) (.cons _ _ _ _ ha .nil))
 refine walk.mono fun e W' hh => ?_
 obtain ⟨v, s', v', k1, k2, μ', _, k3, k4⟩ := hh
 simp only at k1
 subst k1
 cases k4
 exact ⟨k2, k3.below⟩
end

theorem agC_len {μ : Nat → Spot} {n : Nat} {s : St} {a : Value} {ns : List ByteArray} {cs : List Cl} {a1 : Option Addr} {n1 c1 : Nat} (hA : AgC s a ns cs) (h : VR μ n a (.slice a1 n1 c1)) : cs.length = n1 := by
 have key : ∀ (y : Option Addr) (l c : Nat), (∀ K : Value → Prop, popK .lenSl [.slice y l c] K = K (.int .i64 (cs.length : Nat))) → cs.length = l := by
  intro y l c hl
  have h1 := hl fun v => v = .int .i64 (l : Nat)
  rw [pk_lenSl] at h1
  have h2 : (Value.int .i64 (cs.length : Nat)) = .int .i64 (l : Nat) := h1.mp rfl
  injection h2 with _ h3
  omega
 cases h with
 | nilSlice => exact key _ _ _ hA.1
 | slice => exact key _ _ _ hA.1
 | void => exact key _ _ _ hA.1

theorem law_walk (t : ByteArray) (a1 : Option Addr) (n1 c1 : Nat) (W : World) (Fv : ByteArray) (m : Int) (hm : W.cell? ⟨0, 0, none⟩ = some (.int .i64 m)) (h0 : 0 < W.heap.size)
  (h1 : t.size ≤ 2000 → n1 ≤ 40 → Calls Tryz.prog 11 #[.string t, .slice a1 n1 c1] W fun e w' => e = .returned (.string Fv) ∧ Below W.heap.size W w')
  (h2 : t.size ≤ 2000 → n1 ≤ 40 → ∀ w1, Below W.heap.size W w1 → Calls Tryz.prog 12 #[.string t, .slice a1 n1 c1] w1 fun e w2 => e = .returned (.string Fv) ∧ Below w1.heap.size w1 w2) :
  Calls Tryz.prog 4 #[.string t, .slice a1 n1 c1] W fun e w' => e = .returned (.bool true) ∧ Below W.heap.size W w' := by
 have H1 := Any.hidU h1
 have H2 := Any.hidU h2
 have HM := Any.hidU hm
 have HA : ∀ w1, Below W.heap.size W w1 → Calls Tryz.prog 5 #[] w1 fun e w' => e = .returned (.bool true) ∧ Below w1.heap.size w1 w' := fun w1 hb =>
  awake_calls w1 m (by rw [cell_below hb _ h0]; exact HM.out) (Nat.lt_of_lt_of_le h0 hb.size)
 have HA' := Any.hidU HA
 clear h1 h2 hm HA
 go_enter Tryz.func4, Tryz.ntmps4
 go_wp2_with fail
 ·refine (HA'.out W (Below.refl _ _)).mono ?_
  rintro e w2 ⟨rfl, hb⟩
  have Hb := Any.hidU hb
  clear hb
  go_wp2
  go_ret
  exact ⟨rfl, Hb.out⟩
 ·have ht : t.size ≤ 2000 := by omega
  have hn : n1 ≤ 40 := by omega
  refine (H1.out ht hn).mono ?_
  rintro e w2 ⟨rfl, hb⟩
  have Hb := Any.hidU hb
  clear hb
  go_wp2_with fail
  refine (H2.out ht hn w2 Hb.out).mono ?_
  rintro e w3 ⟨rfl, hb⟩
  have Hb3 := Any.hidU (Hb.out.trans (below_down hb Hb.out.size))
  clear hb
  go_wp2_with fail
  refine (HA'.out w3 Hb3.out).mono ?_
  rintro e w4 ⟨rfl, hb⟩
  have Hb4 := Any.hidU (Hb3.out.trans (below_down hb Hb3.out.size))
  clear hb
  go_wp2
  go_ret
  exact ⟨rfl, Hb4.out⟩
 ·refine (HA'.out W (Below.refl _ _)).mono ?_
  rintro e w2 ⟨rfl, hb⟩
  have Hb := Any.hidU hb
  clear hb
  go_wp2
  go_ret
  exact ⟨rfl, Hb.out⟩
end Go.Proofs.YtjomiadmminhfaaGreatDoor
