/-
  ArgsQuotes: for every text, the law returns true, and its arguments read as before. Conditions: those of the row and its card.
-/
import Derived.Test.YtdmemibnphcedaaGreatDoorRQtsClaimPart44
import Derived.Test.YtdmemibnphcedaaGreatDoorRQtsClaimPart38
import Derived.Test.YtdmemibnphcedaaGreatDoorCards
import Derived.Test.YtdmemibnphcedaaGreatDoorTie
import Derived.WalkKit
import Derived.ProofKit
import Derived.OpenShut
import Derived.Deep.DeepHandedRow
import Derived.Lib.LaidTab
import Derived.Lay
set_option linter.unusedSimpArgs false
set_option linter.unusedVariables false
set_option maxRecDepth 10000
namespace Go.Proofs.YtdmemibnphcedaaGreatDoor.argsQuotes
open Go.ChangeShapes Go.WideShapes Go.ChangeAt Go.RowKit Go.Am
attribute [local irreducible] callO

theorem own : ownKnob Tryz.prog.godebug = none := by kernel_rfl
theorem globals9 : Tryz.prog.globals.size = 9 := by kernel_rfl
theorem hasMax_of {s s' : St} (h : s'.get 0 = s.get 0) : hasMax s' = hasMax s := by unfold hasMax; rw [h]
theorem hasMax_begin (m : Int) : hasMax (St.begin m Tryz.prog.globals.size) = true := by
  unfold hasMax
  rw [begin_get, if_pos rfl]

set_option maxRecDepth 100000 in
theorem contract (H : Type) (enc : TypeId × Value → H) (W : World) (base : Nat) (args : Array Value) (ds gs : List (DataW H)) (before : List MemPlace)
    (hval : ∀ (j : Nat) t v, Tryz.f6.params[j]? = some t → args[j]? = some v → Value.okWide Tryz.prog W .any base t v)
    (hW : DataW.Whole enc Tryz.prog Tryz.f6.params.toList Rows.argsQuotesSpec.vars false W args.toList ds gs before) (hsh : W.ShapedOpen Tryz.prog) :
    Calls Tryz.prog 6 args W fun e W' => ∃ v, e = .returned v ∧ Rows.argsQuotesSpec.post enc Tryz.prog Tryz.f6 false true false false W args v W' := by
  have hW' := hW
  obtain ⟨p, q, hA0, hV, rfl, hfz, hnd⟩ := hW
  have hA : DataW.TrodAll enc Tryz.prog W 0 (fun _ => true) true Tryz.f6.params.toList args.toList ds p := hA0
  rw [Tryz.params6] at hA hval
  obtain ⟨v0, vs0, d0, ds0, p0, q0, hargs, rfl, rfl, h0, r0⟩ := trodAll_cons hA
  obtain ⟨v1, vs1, d1, ds1, p1, q1, rfl, rfl, rfl, h1, r1⟩ := trodAll_cons r0
  obtain ⟨v2, vs2, d2, ds2, p2, q2, rfl, rfl, rfl, h2, r2⟩ := trodAll_cons r1
  obtain ⟨rfl, rfl, rfl⟩ := trodAll_nil r2
  obtain rfl : args = #[v0, v1, v2] := by cases args; simp_all
  obtain ⟨m, hm⟩ : ∃ m, W.cell? ⟨0, 0, none⟩ = some (.int .i64 m) := Tryz.laysM144.s1_3 W hsh
  have hsz : 0 < W.heap.size := by
    by_cases h : 0 < W.heap.size
    · exact h
    · exfalso
      have : W.heap[0]? = none := Array.getElem?_eq_none (by omega)
      simp [World.cell?, this] at hm
  have hG : 0 < Tryz.prog.globals.size := by rw [globals9]; decide
  obtain ⟨a0, n0, c0, rfl⟩ := okWide_slice Tryz.underlying27 (hval 0 _ v0 rfl rfl)
  obtain ⟨a1, n1, c1, rfl⟩ := okWide_slice Tryz.underlying56 (hval 1 _ v1 rfl rfl)
  obtain ⟨ta, rfl⟩ := okWide_string Tryz.underlying9 (hval 2 _ v2 rfl rfl)
  obtain ⟨f0, hf0⟩ := h0
  obtain ⟨f1, hf1⟩ := h1
  obtain ⟨μ1, s1, x1, ws, e1, rel1, vr1, cel1, ow1⟩ := plain_in (β := { s : ByteArray // s.size ≤ maxLen }) (fun q => Value.string q.1) (fun _ _ _ => .string _) (begin_rel hG hm hsz) rfl hG Tryz.underlying27 (fun k v z hz => by
    obtain ⟨q, hq, _, hqs⟩ := DataW.trod_string Tryz.underlying9 hz
    exact ⟨⟨q, hqs⟩, by simpa using hq⟩) (by kernel_rfl) hf0
  obtain ⟨μ2, s2, x2, bl, e2, rel2, vr2, bys2, ow2⟩ := bytes_in rel1 rfl (Nat.lt_of_lt_of_le hG e1.agree.1) Tryz.underlying56 Tryz.underlying5 (by kernel_rfl) hf1
  have hle : s1.next ≤ s2.next := e2.agree.1
  have hmx : hasMax s2 = true := (hasMax_of (((e1.trans e2).keep 0 hG))).trans (hasMax_begin m)
  have hcw : Cel s2 x1 ((ws.map (·.1)).map Value.string) := by
    rw [List.map_map]
    exact cel1.keep fun i hi => e2.keep i (by omega)
  obtain ⟨M, hM, hMw⟩ : ∃ M, 100000 ≤ M ∧ ∀ x ∈ ws.map (·.1), x.size < M ∧ x.size ≤ 9223372036854775807 := by
    clear hcw cel1
    induction ws with
    | nil => exact ⟨100000, Nat.le_refl _, fun x hx => by cases hx⟩
    | cons a r ih =>
      obtain ⟨M, h1, h2⟩ := ih
      refine ⟨M + a.1.size + 1, by omega, fun x hx => ?_⟩
      rw [List.map_cons] at hx
      rcases List.mem_cons.1 hx with rfl | hx
      · exact ⟨by omega, a.2⟩
      · exact ⟨by have := (h2 x hx).1; omega, (h2 x hx).2⟩
  have walk := calls_law (soundW M) (e1.trans e2) rel2 (.cons _ _ _ _ (vr1.mono e2.agree) (.cons _ _ _ _ vr2 (.cons _ _ _ _ (.string ta) .nil)))
    (kArgsQuotes hM ta hcw (by omega) hMw bys2 ow2 (Nat.lt_of_lt_of_le hG (e1.trans e2).agree.1) hmx fun _ => rfl)
  refine walk.mono fun e W' ⟨he, hb⟩ => ⟨_, he, ?_⟩
  exact post_true (tb := 4) (by kernel_rfl) (by kernel_rfl) (by kernel_rfl) Tryz.underlying4 rfl rfl hW' hb

/-- a world that holds what the start lays -/
noncomputable abbrev laidWorld (os : Os) : World := World.laidAll Tryz.prog os Rows.argsQuotesRow.laid
set_option maxRecDepth 1000000 in
theorem laid_met (os : Os) : laidMet Tryz.prog Rows.argsQuotesRow.laid ((laidWorld os).forCall (fun _ _ => 0) ⟨#[], #[.slice none 0 0, .slice none 0 0, .string .empty], []⟩).memory :=
  laidMet_laidAll _ (by kernel_rfl) (by kernel_rfl)
set_option maxRecDepth 1000000 in
theorem shaped (os : Os) : ((laidWorld os).forCall (fun _ _ => 0) ⟨#[], #[.slice none 0 0, .slice none 0 0, .string .empty], []⟩).Shaped Tryz.checked.prog := World.shaped_of_ZipB (by kernel_rfl) (by kernel_rfl)
set_option maxRecDepth 1000000 in
theorem reads (os : Os) {H : Type} (enc : TypeId × Value → H) : ∃ places, DataW.whole enc Tryz.prog ((laidWorld os).forCall (fun _ _ => 0) ⟨#[], #[.slice none 0 0, .slice none 0 0, .string .empty], []⟩).memory Tryz.f6.params.toList Rows.argsQuotesSpec.vars false (#[.slice none 0 0, .slice none 0 0, .string .empty] : Array Value).toList 8 = some ([.nil, .nil, .lit (.string [])], [], places) :=
  ⟨[], by kernel_rfl⟩

set_option maxRecDepth 100000 in
theorem lifted (os : Os) (started : os.Started) (H : Type) (enc : TypeId × Value → H) (F : Stop.Interp) :
    ReturnsInHanded {} Tryz.checked os 6 .any ((OpenSpec.ofChange Rows.argsQuotesSpec).preRow enc Tryz.prog Tryz.f6 Rows.argsQuotesRow.domain false Rows.argsQuotesRow.laid) (((OpenSpec.ofChange Rows.argsQuotesSpec).at F).post enc Tryz.prog Tryz.f6 false true false false) := by
  obtain ⟨places, hx⟩ := reads os enc
  refine returnsInHanded_of_row (C := Tryz.checked) (s := OpenSpec.ofChange Rows.argsQuotesSpec) own started (by kernel_rfl) Tryz.func6
    ⟨laidWorld os, fun _ _ => 0, ⟨#[], #[.slice none 0 0, .slice none 0 0, .string .empty], []⟩, World.laidAll_os _ _ _, shaped os, rfl, (Input.okWide_of_okWideB (base := 0) (by kernel_rfl)).2,
      OpenSpec.preRow_of_cond 8 hx (by kernel_rfl) (fun k hk => by cases hk) (by kernel_rfl) (laid_met os), by
        simp only [Assume.holds]
        exact ⟨by simp, by simp, fun _ => Modest.zero, by simp, by simp⟩⟩ ?_
  intro W base args ds gs before hval hW _ _ _ _ hsh _
  exact contract H enc W base args ds gs before hval hW hsh

theorem said : Rows.ArgsQuotesSaid :=
  OpenClaim.holds_of_cond 6 Tryz.f6 rfl rfl rfl rfl rfl rfl rfl ⟨rfl, rfl, rfl, rfl, rfl⟩ rfl rfl rfl rfl rfl (by kernel_rfl) Tryz.func6 (by kernel_rfl)
    (of_decide_eq_true (by kernel_rfl)) (by unfold Func.isWrapper; first | (rw [if_pos (by decide +kernel)]; kernel_rfl) | (rw [if_neg (by decide +kernel)]; exact ⟨rfl, rfl⟩))
    (fun os started H enc _ F => by rw [OpenClaim.pre_eq_preRow]; exact lifted os started H enc F)

theorem plain (f : FuncId) (fn : Func) (hf : Tryz.pinned.checked.prog.funcNamed "bluebell/bluebelllaw25.ArgsQuotes" = some f) (hfn : Tryz.pinned.checked.prog.funcs[f]? = some fn) :
    true = Tryz.pinned.checked.prog.looks [] ∧ ∀ (j : Nat) t, fn.params[j]? = some t → Tryz.pinned.checked.prog.wantsStandIn t = false := by
  obtain rfl : f = 6 := Option.some.inj ((show Tryz.prog.funcNamed "bluebell/bluebelllaw25.ArgsQuotes" = some 6 by kernel_rfl).symm.trans hf) |>.symm
  obtain rfl : fn = Tryz.f6 := (Option.some.inj (Tryz.func6.symm.trans hfn)).symm
  refine ⟨by kernel_rfl, fun j t ht => ?_⟩
  rw [Tryz.params6] at ht
  have : t = 27 ∨ t = 56 ∨ t = 9 := by simpa using Array.mem_of_getElem? ht
  rcases this with rfl | rfl | rfl
  · exact (show Tryz.prog.wantsStandIn 27 = false by kernel_rfl)
  · exact (show Tryz.prog.wantsStandIn 56 = false by kernel_rfl)
  · exact (show Tryz.prog.wantsStandIn 9 = false by kernel_rfl)

theorem card : Rows.ArgsQuotesCardSaid :=
  Claim7.holds_tied_plain_at .later [] _ _ _ _ said (fun _ h => by cases h) (by kernel_rfl) (fun _ h => by cases h) argsQuotes_row_tie rfl ⟨rfl, rfl⟩ (by kernel_rfl) rfl plain (by kernel_rfl)
end Go.Proofs.YtdmemibnphcedaaGreatDoor.argsQuotes
