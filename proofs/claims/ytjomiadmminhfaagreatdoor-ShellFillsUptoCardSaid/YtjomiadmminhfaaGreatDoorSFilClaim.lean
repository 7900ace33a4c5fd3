/-
  ShellFills: for every text and list of bulk at most 1048576, the law returns true, and its arguments read as before. Conditions: those of the row and its card.
-/
import Derived.Test.YtjomiadmminhfaaGreatDoorSFilClaimPart43
import Derived.Test.YtjomiadmminhfaaGreatDoorSFilClaimPart40
import Derived.Test.YtjomiadmminhfaaGreatDoorCards
import Derived.Test.YtjomiadmminhfaaGreatDoorTie
import Derived.WalkKit
import Derived.ProofKit
import Derived.OpenShut
import Derived.Deep.DeepHandedRow
import Derived.Lib.LaidTab
import Derived.Lay
set_option linter.unusedSimpArgs false
set_option linter.unusedVariables false
set_option maxRecDepth 10000
namespace Go.Proofs.YtjomiadmminhfaaGreatDoor.shellFills
open Go.ChangeShapes Go.WideShapes Go.ChangeAt Go.RowKit Go.Am
attribute [local irreducible] callO

theorem one_le {H : Type} (d : DataW H) : 1 ≤ Rows.uptoBulk d := by
 cases d with
 | lit l => cases l <;> simp [Rows.uptoBulk]
 | nil => simp [Rows.uptoBulk]
 | ptr d => simp [Rows.uptoBulk]
 | slice elems spare => simp [Rows.uptoBulk]
 | agg parts => simp [Rows.uptoBulk]
 | iface t d => simp [Rows.uptoBulk]
 | map entries => simp [Rows.uptoBulk]
 | held h => simp [Rows.uptoBulk]
theorem part_le {H : Type} {d : DataW H} {l : List (DataW H)} (h : d ∈ l) : Rows.uptoBulk d ≤ Rows.uptoBulkAll l := by
 induction l with
 | nil => cases h
 | cons x r ih =>
  simp only [Rows.uptoBulkAll]
  cases List.mem_cons.1 h with
  | inl e => subst e; omega
  | inr e => have := ih e; omega
theorem length_le {H : Type} (l : List (DataW H)) : l.length ≤ Rows.uptoBulkAll l := by
 induction l with
 | nil => simp [Rows.uptoBulkAll]
 | cons x r ih => have := one_le x; simp only [Rows.uptoBulkAll, List.length_cons]; omega
theorem mb (H : Type) : MB (Rows.uptoBulk (H := H)) where
 len elems spare := by have := length_le elems; simp only [Rows.uptoBulk]; omega
 elem elems spare d hd := by have := part_le hd; simp only [Rows.uptoBulk]; omega
 part parts d hd := by have := part_le hd; simp only [Rows.uptoBulk]; omega
 str l := by simp [Rows.uptoBulk]
theorem bulk_of {rs : List Rec3} (h1 : rs.length ≤ 1048576) (h2 : ∀ r ∈ rs, r.nm.size ≤ 1048576 ∧ r.vals.length ≤ 1048576 ∧ ∀ v ∈ r.vals, v.size ≤ 1048576) : Bulk 1048576 (nsOf rs) (csOf rs) where
 len := by simpa [csOf] using h1
 nm j := by
  by_cases hj : j < rs.length
  ·have : (nsOf rs).getD j .empty = rs[j].nm := by simp [nsOf, List.getD_eq_getElem?_getD, hj]
   rw [this]
   exact (h2 _ (List.getElem_mem hj)).1
  ·have : (nsOf rs).getD j .empty = .empty := by simp [nsOf, List.getD_eq_getElem?_getD, List.getElem?_eq_none (show rs.length ≤ j by omega)]
   rw [this]
   exact Nat.zero_le _
 vl j := by
  by_cases hj : j < rs.length
  ·have : clAt (csOf rs) j = ⟨rs[j].vals, rs[j].set, false⟩ := by simp [clAt, csOf, List.getD_eq_getElem?_getD, hj]
   rw [this]
   exact (h2 _ (List.getElem_mem hj)).2
  ·have : clAt (csOf rs) j = Cl.zero := by simp [clAt, csOf, List.getD_eq_getElem?_getD, List.getElem?_eq_none (show rs.length ≤ j by omega)]
   rw [this]
   exact ⟨Nat.zero_le _, fun v hv => by cases hv⟩

theorem globals9 : Tryz.prog.globals.size = 9 := by kernel_rfl
theorem own : ownKnob Tryz.prog.godebug = none := by kernel_rfl

set_option maxRecDepth 100000 in
theorem contract (H : Type) (enc : TypeId × Value → H) (W : World) (base : Nat) (args : Array Value) (ds gs : List (DataW H)) (before : List MemPlace)
  (hval : ∀ (j : Nat) t v, Tryz.f4.params[j]? = some t → args[j]? = some v → Value.okWide Tryz.prog W .any base t v)
  (hW : DataW.Whole enc Tryz.prog Tryz.f4.params.toList Rows.shellFillsSpec.vars false W args.toList ds gs before) (hk : Rows.uptoSmall H (ds ++ gs) = true) (hL : laidMetH Tryz.prog Rows.shellFillsUptoRow.laid W) (hsh : W.ShapedOpen Tryz.prog) :
  Calls Tryz.prog 4 args W fun e W' => ∃ v, e = .returned v ∧ Rows.shellFillsSpec.post enc Tryz.prog Tryz.f4 false true false false W args v W' := by
 have hW' := hW
 obtain ⟨p, q, hA0, hV, rfl, hfz, hnd⟩ := hW
 have hA : DataW.TrodAll enc Tryz.prog W 0 (fun _ => true) true Tryz.f4.params.toList args.toList ds p := hA0
 rw [Tryz.params4] at hA hval
 obtain ⟨v0, vs0, d0, ds0, p0, q0, hargs, rfl, rfl, h0, r0⟩ := trodAll_cons hA
 obtain ⟨v1, vs1, d1, ds1, p1, q1, hargs1, rfl, rfl, h1, r1⟩ := trodAll_cons r0
 obtain ⟨rfl, rfl, rfl⟩ := trodAll_nil r1
 obtain rfl : args = #[v0, v1] := by cases args; simp_all
 obtain ⟨m, hm⟩ : ∃ m, W.cell? ⟨0, 0, none⟩ = some (.int .i64 m) := Tryz.laysM144.s1_3 W hsh
 have hsz : 0 < W.heap.size := by
  by_cases h : 0 < W.heap.size
  ·exact h
  ·exfalso
   have : W.heap[0]? = none := Array.getElem?_eq_none (by omega)
   simp [World.cell?, this] at hm
 have hG : 0 < Tryz.prog.globals.size := by rw [globals9]; decide
 obtain ⟨t0, rfl⟩ := okWide_string Tryz.underlying9 (hval 0 _ v0 rfl rfl)
 obtain ⟨a1, n1, c1, rfl⟩ := okWide_slice Tryz.underlying31 (hval 1 _ v1 rfl rfl)
 obtain ⟨f1, hf1⟩ := h1
 obtain ⟨μ1, s1, x1, rs, e1, rel1, vr1, ow1, rec1, bl1, bl2⟩ := args_inB (mb H) (begin_rel hG hm hsz) rfl (by rw [globals9]; exact Nat.succ_pos 8) (es := 9) Tryz.underlying31 Tryz.underlying63 (by kernel_rfl) rfl rfl rfl rfl rfl rfl (by kernel_rfl) (by kernel_rfl) (by kernel_rfl) Tryz.underlying9 Tryz.underlying23 Tryz.underlying4 Tryz.underlying9 (by kernel_rfl) hf1
 have hd1 : Rows.uptoBulk d1 ≤ 1048576 := Nat.le_trans (part_le (by simp)) (of_decide_eq_true hk)
 have hB : Bulk 1048576 (nsOf rs) (csOf rs) := bulk_of (Nat.le_trans bl1 hd1) fun r hr => ⟨Nat.le_trans (bl2 r hr).1 hd1, Nat.le_trans (bl2 r hr).2.1 hd1, fun v hv => Nat.le_trans ((bl2 r hr).2.2 v hv) hd1⟩
 have hg9 : (St.begin m Tryz.prog.globals.size).next = 9 := globals9
 have h0s : 0 < s1.next := by have := e1.agree.1; omega
 have hmx : hasMax s1 = true := by
  have : hasMax s1 = hasMax (St.begin m Tryz.prog.globals.size) := by unfold hasMax; rw [e1.keep 0 (by omega)]
  rw [this]
  unfold hasMax
  rw [begin_get, if_pos rfl]
 have hns : (nsOf rs).length = (csOf rs).length := by simp [nsOf, csOf]
 have hglob := e1.glob (begin_glob (P := Tryz.prog) (m := m))
 have hlen := agC_len (recs_agC rec1) vr1
 have walk := law_walk t0 a1 n1 c1 W (bs (fillL (valF (nsOf rs) (csOf rs)) t0.data.toList)) m hm hsz
  (fun ht hn => fill_walk t0 (.slice a1 n1 c1) W (by omega) (fun L => hB.itQ L) (by decide) fun L w1 hL h60 hb => item_calls rel1 hglob vr1 h0s hmx (recs_agC rec1) hns (by omega) L w1 hL h60 hb)
  (fun ht hn w1 hb => fillR_calls rel1 hglob vr1 (recs_agC rec1) hns (by omega) hB t0 w1 (by omega) hb)
 refine walk.mono fun e W' ⟨he, hb⟩ => ⟨_, he, ?_⟩
 exact post_true (tb := 4) (by kernel_rfl) (by kernel_rfl) (by kernel_rfl) Tryz.underlying4 rfl rfl hW' hb

/-- a world that holds what the start lays -/
noncomputable abbrev laidWorld (os : Os) : World := World.laidAll Tryz.prog os Rows.shellFillsUptoRow.laid
set_option maxRecDepth 1000000 in
theorem laid_met (os : Os) : laidMet Tryz.prog Rows.shellFillsUptoRow.laid ((laidWorld os).forCall (fun _ _ => 0) ⟨#[], #[.string .empty, .slice none 0 0], []⟩).memory :=
 laidMet_laidAll _ (by kernel_rfl) (by kernel_rfl)
set_option maxRecDepth 1000000 in
theorem shaped (os : Os) : ((laidWorld os).forCall (fun _ _ => 0) ⟨#[], #[.string .empty, .slice none 0 0], []⟩).Shaped Tryz.checked.prog := World.shaped_of_ZipB (by kernel_rfl) (by kernel_rfl)
set_option maxRecDepth 1000000 in
theorem reads (os : Os) {H : Type} (enc : TypeId × Value → H) : ∃ places, DataW.whole enc Tryz.prog ((laidWorld os).forCall (fun _ _ => 0) ⟨#[], #[.string .empty, .slice none 0 0], []⟩).memory Tryz.f4.params.toList Rows.shellFillsSpec.vars false (#[.string .empty, .slice none 0 0] : Array Value).toList 8 = some ([.lit (.string []), .nil], [], places) :=
 ⟨[], by kernel_rfl⟩

set_option maxRecDepth 100000 in
theorem lifted (os : Os) (started : os.Started) (H : Type) (enc : TypeId × Value → H) (F : Stop.Interp) :
  ReturnsInHanded {} Tryz.checked os 4 .any ((Rows.OpenSpec.upto Rows.shellFillsSpec).preRow enc Tryz.prog Tryz.f4 Rows.shellFillsUptoRow.domain false Rows.shellFillsUptoRow.laid) (((Rows.OpenSpec.upto Rows.shellFillsSpec).at F).post enc Tryz.prog Tryz.f4 false true false false) := by
 obtain ⟨places, hx⟩ := reads os enc
 refine returnsInHanded_of_row (C := Tryz.checked) (s := Rows.OpenSpec.upto Rows.shellFillsSpec) own started (by kernel_rfl) Tryz.func4
  ⟨laidWorld os, fun _ _ => 0, ⟨#[], #[.string .empty, .slice none 0 0], []⟩, World.laidAll_os _ _ _, shaped os, rfl, (Input.okWide_of_okWideB (base := 0) (by kernel_rfl)).2,
   OpenSpec.preRow_of_cond 8 hx (by kernel_rfl) (fun k hk => by cases hk; kernel_rfl) (by kernel_rfl) (laid_met os), by
    simp only [Assume.holds]
    exact ⟨by simp, by simp, fun _ => Modest.zero, by simp, by simp⟩⟩ ?_
 intro W base args ds gs before hval hW _ hk _ hL hsh _
 exact contract H enc W base args ds gs before hval hW (hk _ rfl) hL hsh

theorem said : Rows.ShellFillsUptoSaid :=
 OpenClaim.holds_of_cond 4 Tryz.f4 rfl rfl rfl rfl rfl rfl rfl ⟨rfl, rfl, rfl, rfl, rfl⟩ rfl rfl rfl rfl rfl (by kernel_rfl) Tryz.func4 (by kernel_rfl)
  (of_decide_eq_true (by kernel_rfl)) (by unfold Func.isWrapper; first | (rw [if_pos (by decide +kernel)]; kernel_rfl) | (rw [if_neg (by decide +kernel)]; exact ⟨rfl, rfl⟩))
  (fun os started H enc _ F => by rw [OpenClaim.pre_eq_preRow]; exact lifted os started H enc F)

theorem plain (f : FuncId) (fn : Func) (hf : Tryz.pinned.checked.prog.funcNamed "bluebell/bluebelllaw26.ShellFills" = some f) (hfn : Tryz.pinned.checked.prog.funcs[f]? = some fn) :
  true = Tryz.pinned.checked.prog.looks [] ∧ ∀ (j : Nat) t, fn.params[j]? = some t → Tryz.pinned.checked.prog.wantsStandIn t = false := by
 obtain rfl : f = 4 := Option.some.inj ((show Tryz.prog.funcNamed "bluebell/bluebelllaw26.ShellFills" = some 4 by kernel_rfl).symm.trans hf) |>.symm
 obtain rfl : fn = Tryz.f4 := (Option.some.inj (Tryz.func4.symm.trans hfn)).symm
 refine ⟨by kernel_rfl, fun j t ht => ?_⟩
 rw [Tryz.params4] at ht
 have : t = 9 ∨ t = 31 := by simpa using Array.mem_of_getElem? ht
 rcases this with rfl | rfl
 ·exact (show Tryz.prog.wantsStandIn 9 = false by kernel_rfl)
 ·exact (show Tryz.prog.wantsStandIn 31 = false by kernel_rfl)

theorem card : Rows.ShellFillsUptoCardSaid :=
 Claim7.holds_tied_plain_at .later [] _ _ _ _ said (fun _ h => by cases h) (by kernel_rfl) (fun _ h => by cases h) shellFillsUpto_row_tie rfl ⟨rfl, rfl⟩ (by kernel_rfl) rfl plain (by kernel_rfl)
end Go.Proofs.YtjomiadmminhfaaGreatDoor.shellFills
