/-
  ArgsBack: for every two texts and list of bulk at most 1048576, the law returns true, and its arguments read as before. Conditions: those of the row and its card.
-/
import Derived.Test.YtdmemibnphcedaaGreatDoorRBckClaimPart48
import Derived.Test.YtdmemibnphcedaaGreatDoorRBckClaimPart43
import Derived.Test.YtdmemibnphcedaaGreatDoorCards
import Derived.Test.YtdmemibnphcedaaGreatDoorTie
import Derived.WalkKit
import Derived.ProofKit
import Derived.OpenShut
import Derived.Deep.DeepHandedRow
import Derived.Lib.LaidTab
import Derived.Lay
import Derived.Stop.LaidErr
import Derived.LaidLaws
set_option linter.unusedSimpArgs false
set_option linter.unusedVariables false
set_option maxRecDepth 10000
namespace Go.Proofs.YtdmemibnphcedaaGreatDoor.argsBack
open Go.ChangeShapes Go.WideShapes Go.ChangeAt Go.RowKit Go.Am Go.Proofs.YtdmemibnphcedaaGreatDoor.argsFits
attribute [local irreducible] callO

theorem one_le {H : Type} (d : DataW H) : 1 ≤ Rows.uptoBulk d := by
 cases d with
 | lit l => cases l <;> simp [Rows.uptoBulk]
 | nil => simp [Rows.uptoBulk]
 | ptr d => simp [Rows.uptoBulk]
 | slice elems spare => simp [Rows.uptoBulk]
 | agg parts => simp [Rows.uptoBulk]
 | iface t d => simp [Rows.uptoBulk]
 | map entries => simp [Rows.uptoBulk]
 | held h => simp [Rows.uptoBulk]
theorem part_le {H : Type} {d : DataW H} {l : List (DataW H)} (h : d ∈ l) : Rows.uptoBulk d ≤ Rows.uptoBulkAll l := by
 induction l with
 | nil => cases h
 | cons x r ih =>
  simp only [Rows.uptoBulkAll]
  cases List.mem_cons.1 h with
  | inl e => subst e; omega
  | inr e => have := ih e; omega
theorem length_le {H : Type} (l : List (DataW H)) : l.length ≤ Rows.uptoBulkAll l := by
 induction l with
 | nil => simp [Rows.uptoBulkAll]
 | cons x r ih => have := one_le x; simp only [Rows.uptoBulkAll, List.length_cons]; omega
theorem mb (H : Type) : MB (Rows.uptoBulk (H := H)) where
 len elems spare := by have := length_le elems; simp only [Rows.uptoBulk]; omega
 elem elems spare d hd := by have := part_le hd; simp only [Rows.uptoBulk]; omega
 part parts d hd := by have := part_le hd; simp only [Rows.uptoBulk]; omega
 str l := by simp [Rows.uptoBulk]
theorem bulk_of {rs : List Rec3} (h1 : rs.length ≤ 1048576) (h2 : ∀ r ∈ rs, r.nm.size ≤ 1048576 ∧ r.vals.length ≤ 1048576 ∧ ∀ v ∈ r.vals, v.size ≤ 1048576) : Bulk 1048576 (nsOf rs) (csOf rs) where
 len := by simpa [csOf] using h1
 nm j := by
  by_cases hj : j < rs.length
  ·have : (nsOf rs).getD j .empty = rs[j].nm := by simp [nsOf, List.getD_eq_getElem?_getD, hj]
   rw [this]
   exact (h2 _ (List.getElem_mem hj)).1
  ·have : (nsOf rs).getD j .empty = .empty := by simp [nsOf, List.getD_eq_getElem?_getD, List.getElem?_eq_none (show rs.length ≤ j by omega)]
   rw [this]
   exact Nat.zero_le _
 vl j := by
  by_cases hj : j < rs.length
  ·have : clAt (csOf rs) j = ⟨rs[j].vals, rs[j].set, false⟩ := by simp [clAt, csOf, List.getD_eq_getElem?_getD, hj]
   rw [this]
   exact (h2 _ (List.getElem_mem hj)).2
  ·have : clAt (csOf rs) j = Cl.zero := by simp [clAt, csOf, List.getD_eq_getElem?_getD, List.getElem?_eq_none (show rs.length ≤ j by omega)]
   rw [this]
   exact ⟨Nat.zero_le _, fun v hv => by cases hv⟩

theorem own : ownKnob Tryz.prog.godebug = none := by kernel_rfl

set_option maxRecDepth 100000 in
theorem contract (H : Type) (enc : TypeId × Value → H) (W : World) (base : Nat) (args : Array Value) (ds gs : List (DataW H)) (before : List MemPlace)
  (hval : ∀ (j : Nat) t v, Tryz.f8.params[j]? = some t → args[j]? = some v → Value.okWide Tryz.prog W .any base t v)
  (hW : DataW.Whole enc Tryz.prog Tryz.f8.params.toList Rows.argsBackSpec.vars false W args.toList ds gs before) (hk : Rows.uptoSmall H (ds ++ gs) = true) (hL : laidMetH Tryz.prog Rows.argsBackUptoRow.laid W) (hsh : W.ShapedOpen Tryz.prog) :
  Calls Tryz.prog 8 args W fun e W' => ∃ v, e = .returned v ∧ Rows.argsBackSpec.post enc Tryz.prog Tryz.f8 false true false false W args v W' := by
 have hW' := hW
 obtain ⟨p, q, hA0, hV, rfl, hfz, hnd⟩ := hW
 have hA : DataW.TrodAll enc Tryz.prog W 0 (fun _ => true) true Tryz.f8.params.toList args.toList ds p := hA0
 rw [Tryz.params8] at hA hval
 obtain ⟨v0, vs0, d0, ds0, p0, q0, hargs, rfl, rfl, h0, r0⟩ := trodAll_cons hA
 obtain ⟨v2, vs2, d2, ds2, p2, q2, hargs2, rfl, rfl, h2, r2⟩ := trodAll_cons r0
 obtain ⟨v1, vs1, d1, ds1, p1, q1, hargs1, rfl, rfl, h1, r1⟩ := trodAll_cons r2
 obtain ⟨rfl, rfl, rfl⟩ := trodAll_nil r1
 obtain rfl : args = #[v0, v2, v1] := by cases args; simp_all
 obtain ⟨m, hm⟩ : ∃ m, W.cell? ⟨0, 0, none⟩ = some (.int .i64 m) := Tryz.laysM144.s1_3 W hsh
 obtain ⟨te, a, hce, hsp⟩ := err_laid hL
 obtain ⟨t0, rfl⟩ := okWide_string Tryz.underlying9 (hval 0 _ v0 rfl rfl)
 obtain ⟨l0, rfl⟩ := okWide_string Tryz.underlying9 (hval 1 _ v2 rfl rfl)
 obtain ⟨a1, n1, c1, rfl⟩ := okWide_slice Tryz.underlying23 (hval 2 _ v1 rfl rfl)
 obtain ⟨f1, hf1⟩ := h1
 have hsz : W.heap.size = W.heap.size := rfl
 have h0n : 0 < (beginE m te).next := by show 0 < 10; decide
 obtain ⟨μ1, s1, x1, rs, e1, rel1, vr1, ow1, rec1, bl1, bl2⟩ := args_inB (mb H) (beginE_rel hm hce hsp) rfl h0n (es := 9) Tryz.underlying23 Tryz.underlying29 (by kernel_rfl) rfl rfl rfl rfl rfl rfl (by kernel_rfl) (by kernel_rfl) (by kernel_rfl) Tryz.underlying9 Tryz.underlying27 Tryz.underlying4 Tryz.underlying9 (by kernel_rfl) hf1
 have hd1 : Rows.uptoBulk d1 ≤ 1048576 := Nat.le_trans (part_le (by simp)) (of_decide_eq_true hk)
 have hB : Bulk 1048576 (nsOf rs) (csOf rs) := bulk_of (Nat.le_trans bl1 hd1) fun r hr => ⟨Nat.le_trans (bl2 r hr).1 hd1, Nat.le_trans (bl2 r hr).2.1 hd1, fun v hv => Nat.le_trans ((bl2 r hr).2.2 v hv) hd1⟩
 have hk0 : ∀ i, i < 10 → s1.get i = (beginE m te).get i := fun i hi => e1.keep i hi
 have hn1 : 10 ≤ s1.next := e1.agree.1
 have hmx : hasMax s1 = true := by
  have : hasMax s1 = hasMax (beginE m te) := by unfold hasMax; rw [hk0 0 (by decide)]
  rw [this]; exact beginE_max m te
 have her : hasErr s1 = true := by
  have : hasErr s1 = hasErr (beginE m te) := by unfold hasErr; rw [hk0 2 (by decide)]
  rw [this]; exact beginE_err m te
 have hrun := kArgsBack t0 l0 (st := s1) (K := fun v _ => v = .bool true) (recs_agC rec1) (by simp [nsOf, csOf]) hB (show 2 < s1.next by omega) hmx her fun _ => rfl
 have walk := calls_of_run (soundU 2000000 2) (Q := fun r => r.1 = .bool true) hrun rel1 (e1.glob (beginE_glob m te a)) (args := [.string t0, .string l0, .slice a1 n1 c1]) (.cons _ _ _ _ (.string t0) (.cons _ _ _ _ (.string l0) (.cons _ _ _ _ vr1 .nil)))
 refine walk.mono fun e W' hh => ?_
 obtain ⟨v, s', v', k1, k2, μ', _, k3, k4⟩ := hh
 simp only at k1
 subst k1
 cases k4
 refine ⟨_, k2, ?_⟩
 exact post_true (tb := 4) (by kernel_rfl) (by kernel_rfl) (by kernel_rfl) Tryz.underlying4 rfl rfl hW' k3.below

/-- a world that holds what the start lays -/
noncomputable abbrev laidWorld (os : Os) : World := World.laidAll Tryz.prog os Rows.argsBackUptoRow.laid
set_option maxRecDepth 1000000 in
theorem laid_met (os : Os) : laidMet Tryz.prog Rows.argsBackUptoRow.laid ((laidWorld os).forCall (fun _ _ => 0) ⟨#[], #[.string .empty, .string .empty, .slice none 0 0], []⟩).memory :=
 laidMet_laidAll _ (by kernel_rfl) (by kernel_rfl)
set_option maxRecDepth 1000000 in
theorem shaped (os : Os) : ((laidWorld os).forCall (fun _ _ => 0) ⟨#[], #[.string .empty, .string .empty, .slice none 0 0], []⟩).Shaped Tryz.checked.prog := World.shaped_of_ZipB (by kernel_rfl) (by kernel_rfl)
set_option maxRecDepth 1000000 in
theorem reads (os : Os) {H : Type} (enc : TypeId × Value → H) : ∃ places, DataW.whole enc Tryz.prog ((laidWorld os).forCall (fun _ _ => 0) ⟨#[], #[.string .empty, .string .empty, .slice none 0 0], []⟩).memory Tryz.f8.params.toList Rows.argsBackSpec.vars false (#[.string .empty, .string .empty, .slice none 0 0] : Array Value).toList 8 = some ([.lit (.string []), .lit (.string []), .nil], [], places) :=
 ⟨[], by kernel_rfl⟩

set_option maxRecDepth 100000 in
theorem lifted (os : Os) (started : os.Started) (H : Type) (enc : TypeId × Value → H) (F : Stop.Interp) :
  ReturnsInHanded {} Tryz.checked os 8 .any ((Rows.OpenSpec.upto Rows.argsBackSpec).preRow enc Tryz.prog Tryz.f8 Rows.argsBackUptoRow.domain false Rows.argsBackUptoRow.laid) (((Rows.OpenSpec.upto Rows.argsBackSpec).at F).post enc Tryz.prog Tryz.f8 false true false false) := by
 obtain ⟨places, hx⟩ := reads os enc
 refine returnsInHanded_of_row (C := Tryz.checked) (s := Rows.OpenSpec.upto Rows.argsBackSpec) own started (by kernel_rfl) Tryz.func8
  ⟨laidWorld os, fun _ _ => 0, ⟨#[], #[.string .empty, .string .empty, .slice none 0 0], []⟩, World.laidAll_os _ _ _, shaped os, rfl, (Input.okWide_of_okWideB (base := 0) (by kernel_rfl)).2,
   OpenSpec.preRow_of_cond 8 hx (by kernel_rfl) (fun k hk => by cases hk; kernel_rfl) (by kernel_rfl) (laid_met os), by
    simp only [Assume.holds]
    exact ⟨by simp, by simp, fun _ => Modest.zero, by simp, by simp⟩⟩ ?_
 intro W base args ds gs before hval hW _ hk _ hL hsh _
 exact contract H enc W base args ds gs before hval hW (hk _ rfl) hL hsh

theorem said : Rows.ArgsBackUptoSaid :=
 OpenClaim.holds_of_cond 8 Tryz.f8 rfl rfl rfl rfl rfl rfl rfl ⟨rfl, rfl, rfl, rfl, rfl⟩ rfl rfl rfl rfl rfl (by kernel_rfl) Tryz.func8 (by kernel_rfl)
  (of_decide_eq_true (by kernel_rfl)) (by unfold Func.isWrapper; first | (rw [if_pos (by decide +kernel)]; kernel_rfl) | (rw [if_neg (by decide +kernel)]; exact ⟨rfl, rfl⟩))
  (fun os started H enc _ F => by rw [OpenClaim.pre_eq_preRow]; exact lifted os started H enc F)

theorem plain (f : FuncId) (fn : Func) (hf : Tryz.pinned.checked.prog.funcNamed "bluebell/bluebelllaw25.ArgsBack" = some f) (hfn : Tryz.pinned.checked.prog.funcs[f]? = some fn) :
  true = Tryz.pinned.checked.prog.looks [] ∧ ∀ (j : Nat) t, fn.params[j]? = some t → Tryz.pinned.checked.prog.wantsStandIn t = false := by
 obtain rfl : f = 8 := Option.some.inj ((show Tryz.prog.funcNamed "bluebell/bluebelllaw25.ArgsBack" = some 8 by kernel_rfl).symm.trans hf) |>.symm
 obtain rfl : fn = Tryz.f8 := (Option.some.inj (Tryz.func8.symm.trans hfn)).symm
 refine ⟨by kernel_rfl, fun j t ht => ?_⟩
 rw [Tryz.params8] at ht
 have : t = 9 ∨ t = 23 := by simpa using Array.mem_of_getElem? ht
 rcases this with rfl | rfl
 ·exact (show Tryz.prog.wantsStandIn 9 = false by kernel_rfl)
 ·exact (show Tryz.prog.wantsStandIn 23 = false by kernel_rfl)

theorem card : Rows.ArgsBackUptoCardSaid :=
 Claim7.holds_tied_plain_at .later [] _ _ _ _ said (fun _ h => by cases h) (by kernel_rfl) (fun _ h => by cases h) argsBackUpto_row_tie rfl ⟨rfl, rfl⟩ (by kernel_rfl) rfl plain (by kernel_rfl)
end Go.Proofs.YtdmemibnphcedaaGreatDoor.argsBack
