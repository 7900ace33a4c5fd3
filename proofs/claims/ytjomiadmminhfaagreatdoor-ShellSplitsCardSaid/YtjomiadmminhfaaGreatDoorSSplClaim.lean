/-
  ShellSplits: for every line, the law returns true, and its argument reads as before. Conditions: those of the row and its card.
-/
import Derived.Test.YtjomiadmminhfaaGreatDoorSSplClaimPart35
import Derived.Test.YtjomiadmminhfaaGreatDoorSSplClaimPart37
import Derived.Test.YtjomiadmminhfaaGreatDoorCards
import Derived.Test.YtjomiadmminhfaaGreatDoorTie
import Derived.WalkKit
import Derived.ProofKit
import Derived.OpenShut
import Derived.Deep.DeepHandedRow
import Derived.Lib.LaidTab
import Derived.Lay
set_option linter.unusedSimpArgs false
set_option linter.unusedVariables false
set_option maxRecDepth 10000
namespace Go.Proofs.YtjomiadmminhfaaGreatDoor.shellSplits
open Go.ChangeShapes Go.WideShapes Go.ChangeAt Go.RowKit Go.Am
attribute [local irreducible] callO

theorem own : ownKnob Tryz.prog.godebug = none := by kernel_rfl
theorem globals9 : Tryz.prog.globals.size = 9 := by kernel_rfl
theorem hasMax_of {s s' : St} (h : s'.get 0 = s.get 0) : hasMax s' = hasMax s := by unfold hasMax; rw [h]
theorem hasMax_begin (m : Int) : hasMax (St.begin m Tryz.prog.globals.size) = true := by
 unfold hasMax
 rw [begin_get, if_pos rfl]
set_option maxRecDepth 100000 in
theorem contract (H : Type) (enc : TypeId × Value → H) (W : World) (base : Nat) (args : Array Value) (ds gs : List (DataW H)) (before : List MemPlace)
  (hval : ∀ (j : Nat) t v, Tryz.f3.params[j]? = some t → args[j]? = some v → Value.okWide Tryz.prog W .any base t v)
  (hW : DataW.Whole enc Tryz.prog Tryz.f3.params.toList Rows.shellSplitsSpec.vars false W args.toList ds gs before) (hsh : W.ShapedOpen Tryz.prog) :
  Calls Tryz.prog 3 args W fun e W' => ∃ v, e = .returned v ∧ Rows.shellSplitsSpec.post enc Tryz.prog Tryz.f3 false true false false W args v W' := by
 have hW' := hW
 obtain ⟨p, q, hA0, hV, rfl, hfz, hnd⟩ := hW
 have hA : DataW.TrodAll enc Tryz.prog W 0 (fun _ => true) true Tryz.f3.params.toList args.toList ds p := hA0
 rw [Tryz.params3] at hA hval
 obtain ⟨v0, vs0, d0, ds0, p0, q0, hargs, rfl, rfl, h0, r0⟩ := trodAll_cons hA
 obtain ⟨rfl, rfl, rfl⟩ := trodAll_nil r0
 obtain rfl : args = #[v0] := by cases args; simp_all
 obtain ⟨m, hm⟩ : ∃ m, W.cell? ⟨0, 0, none⟩ = some (.int .i64 m) := Tryz.laysM144.s1_3 W hsh
 have hsz : 0 < W.heap.size := by
  by_cases h : 0 < W.heap.size
  ·exact h
  ·exfalso
   have : W.heap[0]? = none := Array.getElem?_eq_none (by omega)
   simp [World.cell?, this] at hm
 have hG : 0 < Tryz.prog.globals.size := by rw [globals9]; decide
 obtain ⟨ta, rfl⟩ := okWide_string Tryz.underlying9 (hval 0 _ v0 rfl rfl)
 have e0 : Ext (fun i => ⟨i, 0, 1, 0⟩) (St.begin m Tryz.prog.globals.size) (fun i => ⟨i, 0, 1, 0⟩) (St.begin m Tryz.prog.globals.size) := Ext.refl _ _
 have walk := calls_law (soundS 100000 4) e0 (begin_rel hG hm hsz) (.cons _ _ _ _ (.string ta) .nil)
  (kShellSplits ta (by rw [globals9]; exact Nat.succ_pos 8) (hasMax_begin m) fun _ => rfl)
 refine walk.mono fun e W' ⟨he, hb⟩ => ⟨_, he, ?_⟩
 exact post_true (tb := 4) (by kernel_rfl) (by kernel_rfl) (by kernel_rfl) Tryz.underlying4 rfl rfl hW' hb

/-- a world that holds what the start lays -/
noncomputable abbrev laidWorld (os : Os) : World := World.laidAll Tryz.prog os Rows.shellSplitsRow.laid
set_option maxRecDepth 1000000 in
theorem laid_met (os : Os) : laidMet Tryz.prog Rows.shellSplitsRow.laid ((laidWorld os).forCall (fun _ _ => 0) ⟨#[], #[.string .empty], []⟩).memory :=
 laidMet_laidAll _ (by kernel_rfl) (by kernel_rfl)
set_option maxRecDepth 1000000 in
theorem shaped (os : Os) : ((laidWorld os).forCall (fun _ _ => 0) ⟨#[], #[.string .empty], []⟩).Shaped Tryz.checked.prog := World.shaped_of_ZipB (by kernel_rfl) (by kernel_rfl)
set_option maxRecDepth 1000000 in
theorem reads (os : Os) {H : Type} (enc : TypeId × Value → H) : ∃ places, DataW.whole enc Tryz.prog ((laidWorld os).forCall (fun _ _ => 0) ⟨#[], #[.string .empty], []⟩).memory Tryz.f3.params.toList Rows.shellSplitsSpec.vars false (#[.string .empty] : Array Value).toList 8 = some ([.lit (.string [])], [], places) :=
 ⟨[], by kernel_rfl⟩

set_option maxRecDepth 100000 in
theorem lifted (os : Os) (started : os.Started) (H : Type) (enc : TypeId × Value → H) (F : Stop.Interp) :
  ReturnsInHanded {} Tryz.checked os 3 .any ((OpenSpec.ofChange Rows.shellSplitsSpec).preRow enc Tryz.prog Tryz.f3 Rows.shellSplitsRow.domain false Rows.shellSplitsRow.laid) (((OpenSpec.ofChange Rows.shellSplitsSpec).at F).post enc Tryz.prog Tryz.f3 false true false false) := by
 obtain ⟨places, hx⟩ := reads os enc
 refine returnsInHanded_of_row (C := Tryz.checked) (s := OpenSpec.ofChange Rows.shellSplitsSpec) own started (by kernel_rfl) Tryz.func3
  ⟨laidWorld os, fun _ _ => 0, ⟨#[], #[.string .empty], []⟩, World.laidAll_os _ _ _, shaped os, rfl, (Input.okWide_of_okWideB (base := 0) (by kernel_rfl)).2,
   OpenSpec.preRow_of_cond 8 hx (by kernel_rfl) (fun k hk => by cases hk) (by kernel_rfl) (laid_met os), by
    simp only [Assume.holds]
    exact ⟨by simp, by simp, fun _ => Modest.zero, by simp, by simp⟩⟩ ?_
 intro W base args ds gs before hval hW _ _ _ _ hsh _
 exact contract H enc W base args ds gs before hval hW hsh

theorem said : Rows.ShellSplitsSaid :=
 OpenClaim.holds_of_cond 3 Tryz.f3 rfl rfl rfl rfl rfl rfl rfl ⟨rfl, rfl, rfl, rfl, rfl⟩ rfl rfl rfl rfl rfl (by kernel_rfl) Tryz.func3 (by kernel_rfl)
  (of_decide_eq_true (by kernel_rfl)) (by unfold Func.isWrapper; first | (rw [if_pos (by decide +kernel)]; kernel_rfl) | (rw [if_neg (by decide +kernel)]; exact ⟨rfl, rfl⟩))
  (fun os started H enc _ F => by rw [OpenClaim.pre_eq_preRow]; exact lifted os started H enc F)

theorem plain (f : FuncId) (fn : Func) (hf : Tryz.pinned.checked.prog.funcNamed "bluebell/bluebelllaw26.ShellSplits" = some f) (hfn : Tryz.pinned.checked.prog.funcs[f]? = some fn) :
  true = Tryz.pinned.checked.prog.looks [] ∧ ∀ (j : Nat) t, fn.params[j]? = some t → Tryz.pinned.checked.prog.wantsStandIn t = false := by
 obtain rfl : f = 3 := Option.some.inj ((show Tryz.prog.funcNamed "bluebell/bluebelllaw26.ShellSplits" = some 3 by kernel_rfl).symm.trans hf) |>.symm
 obtain rfl : fn = Tryz.f3 := (Option.some.inj (Tryz.func3.symm.trans hfn)).symm
 refine ⟨by kernel_rfl, fun j t ht => ?_⟩
 rw [Tryz.params3] at ht
 have : t = 9 := by simpa using Array.mem_of_getElem? ht
 subst this
 exact (show Tryz.prog.wantsStandIn 9 = false by kernel_rfl)

theorem card : Rows.ShellSplitsCardSaid :=
 Claim7.holds_tied_plain_at .later [] _ _ _ _ said (fun _ h => by cases h) (by kernel_rfl) (fun _ h => by cases h) shellSplits_row_tie rfl ⟨rfl, rfl⟩ (by kernel_rfl) rfl plain (by kernel_rfl)
end Go.Proofs.YtjomiadmminhfaaGreatDoor.shellSplits
