/-
  StreamNil: for every call (five values: three ints and two texts) that is made on streams that there are not, the law returns true, and its argument reads as before. Conditions: those of the row and its card.
-/
import Derived.Test.YtocofoiijfofaaaGreatDoorZNil
import Derived.Test.YtocofoiijfofaaaGreatDoorAmRow
import Derived.Test.YtocofoiijfofaaaGreatDoorCards
import Derived.Test.YtocofoiijfofaaaGreatDoorTie
import Derived.WalkKit
import Derived.ProofKit
import Derived.OpenShut
import Derived.Deep.DeepHandedRow
import Derived.Lib.LaidTab
set_option linter.unusedSimpArgs false
set_option linter.unusedVariables false
set_option maxRecDepth 10000
namespace Go.Proofs.YtocofoiijfofaaaGreatDoor.nils
open Go.ChangeShapes Go.WideShapes Go.ChangeAt Go.RowKit Go.Am
attribute [local irreducible] callO

theorem own : ownKnob Tryz.prog.godebug = none := by kernel_rfl
theorem globals3 : Tryz.prog.globals.size = 3 := by kernel_rfl
theorem hasMax_begin (m : Int) : hasMax (St.begin m 3) = true := by
  unfold hasMax
  rw [begin_get, if_pos rfl]
theorem sound (n : Nat) : FSound Tryz.prog (callO T0 orc fns 1000 n) := callO_sound (by kernel_rfl) T0_ok orc_sound (lookFn_ok fns_ok) 1000 n

theorem take1 {cs : List Value} {o : Nat} {v : Value} (h : (cs.drop o).take 1 = [v]) : cs[o]? = some v := by
  have := congrArg (fun l => l[0]?) h
  simpa using this

theorem open_act {W : World} {r : Reach} {base : Nat} {H : Type} {enc : TypeId × Value → H} {v : Value} {d : DataW H} {p : List MemPlace} (hv : Value.okWide Tryz.prog W r base 51 v)
    (h : DataW.Trod enc Tryz.prog W 0 (fun _ => true) true 51 v d p) : ∃ (a b c : Int) (s t : ByteArray), v = .agg #[.int .i64 a, .int .i64 b, .int .i64 c, .string s, .string t] := by
  obtain ⟨cs, rfl, hsz⟩ := okWide_struct Tryz.underlying51 hv
  obtain ⟨fuel, hf⟩ := h
  obtain ⟨xs, n, _, _, _, hl, hx⟩ := DataW.trod_struct Tryz.underlying51 hf
  have c1 : Tryz.prog.cellsOf 3 = 1 := by kernel_rfl
  have c2 : Tryz.prog.cellsOf 9 = 1 := by kernel_rfl
  have c5 : Tryz.prog.cellsOf 51 = 5 := by kernel_rfl
  have hl5 : xs.length = 5 := hl
  have g : ∀ i (hi : i < 5), xs[i]? = some (xs[i]'(by omega)) := fun i hi => List.getElem?_eq_getElem (by omega)
  have f0 := (hx 0 _ rfl).trans (g 0 (by decide))
  have f1 := (hx 1 _ rfl).trans (g 1 (by decide))
  have f2 := (hx 2 _ rfl).trans (g 2 (by decide))
  have f3 := (hx 3 _ rfl).trans (g 3 (by decide))
  have f4 := (hx 4 _ rfl).trans (g 4 (by decide))
  simp only [c1, c2, Value.cells] at f0 f1 f2 f3 f4
  obtain ⟨a, ha, _⟩ := DataW.trod_int Tryz.underlying3 f0
  obtain ⟨b, hb, _⟩ := DataW.trod_int Tryz.underlying3 f1
  obtain ⟨c, hc, _⟩ := DataW.trod_int Tryz.underlying3 f2
  obtain ⟨s, hs, _⟩ := DataW.trod_string Tryz.underlying9 f3
  obtain ⟨t, ht, _⟩ := DataW.trod_string Tryz.underlying9 f4
  refine ⟨a, b, c, s, t, ?_⟩
  have hs5 : cs.toList.length = 5 := by simpa [c5] using hsz
  have a0 := take1 ha
  have a1 := take1 hb
  have a2 := take1 hc
  have a3 := take1 hs
  have a4 := take1 ht
  obtain ⟨l⟩ := cs
  simp only at hs5 a0 a1 a2 a3 a4
  match l, hs5 with
  | [x0, x1, x2, x3, x4], _ =>
    simp at a0 a1 a2 a3 a4
    subst a0 a1 a2 a3 a4
    rfl

set_option maxRecDepth 100000 in
theorem contract (H : Type) (enc : TypeId × Value → H) (W : World) (base : Nat) (args : Array Value) (ds gs : List (DataW H)) (before : List MemPlace)
    (hval : ∀ (j : Nat) t v, Tryz.f5.params[j]? = some t → args[j]? = some v → Value.okWide Tryz.prog W .any base t v)
    (hW : DataW.Whole enc Tryz.prog Tryz.f5.params.toList Rows.streamNilSpec.vars false W args.toList ds gs before) (hsh : W.ShapedOpen Tryz.prog) :
    Calls Tryz.prog 5 args W fun e W' => ∃ v, e = .returned v ∧ Rows.streamNilSpec.post enc Tryz.prog Tryz.f5 false true false false W args v W' := by
  have hW' := hW
  obtain ⟨p, q, hA0, hV, rfl, hfz, hnd⟩ := hW
  have hA : DataW.TrodAll enc Tryz.prog W 0 (fun _ => true) true Tryz.f5.params.toList args.toList ds p := hA0
  rw [Tryz.params5] at hA hval
  obtain ⟨v0, vs0, d0, ds0, p0, q0, hargs, rfl, rfl, h0, r0⟩ := trodAll_cons hA
  obtain ⟨rfl, rfl, rfl⟩ := trodAll_nil r0
  obtain rfl : args = #[v0] := by cases args; simp_all
  obtain ⟨m, hm⟩ : ∃ m, W.cell? ⟨0, 0, none⟩ = some (.int .i64 m) := Tryz.laysM144.s1_3 W hsh
  have hsz : 0 < W.heap.size := by
    by_cases h : 0 < W.heap.size
    · exact h
    · exfalso
      have : W.heap[0]? = none := Array.getElem?_eq_none (by omega)
      simp [World.cell?, this] at hm
  obtain ⟨a, b, c, s, t, rfl⟩ := open_act (hval 0 _ v0 rfl rfl) h0
  have walk := calls_plain (sound (0 + 4)) (f := 5) (m := m) (by rw [globals3]; decide) (args := [.agg #[.int .i64 a, .int .i64 b, .int .i64 c, .string s, .string t]])
    (fun μ n => .cons _ _ _ _ (.agg _ _ (.cons _ _ _ _ (.int _ _) (.cons _ _ _ _ (.int _ _) (.cons _ _ _ _ (.int _ _) (.cons _ _ _ _ (.string _) (.cons _ _ _ _ (.string _) .nil)))))) .nil)
    (by rw [globals3]; exact kNil 0 a b c s t _ _ (hasMax_begin m) (by show 0 < 3; decide) fun _ => rfl) W hm hsz
  refine walk.mono fun e W' ⟨he, hb⟩ => ⟨_, he, ?_⟩
  exact post_true (tb := 4) (by kernel_rfl) (by kernel_rfl) (by kernel_rfl) Tryz.underlying4 rfl rfl hW' hb

/-- the cells of a laid table -/
def flat1 : DataW Unit → List Value
  | .lit (.int k n) => [.int k n]
  | _ => []
def flat2 : DataW Unit → List Value
  | .agg ds => ds.flatMap flat1
  | _ => []
def flat3 : DataW Unit → List Value
  | .agg ds => ds.flatMap flat2
  | _ => []

def laidIn (cs : List Value) : Obj → Obj
  | .cells _ t frozen => .cells cs.toArray t frozen
  | o => o

theorem gFirst : Tryz.prog.globalNamed "unicode/utf8.first" = some 1 := by kernel_rfl
theorem gRanges : Tryz.prog.globalNamed "unicode/utf8.acceptRanges" = some 2 := by kernel_rfl

noncomputable def laidWorld (os : Os) : World :=
  { World.holding Tryz.prog os ⟨#[], #[], []⟩ with heap := ((World.holding Tryz.prog os ⟨#[], #[], []⟩).heap.modify 1 (laidIn (flat2 Rows.laid_unicode_utf8_first))).modify 2 (laidIn (flat3 Rows.laid_unicode_utf8_acceptRanges)) }
theorem laid_met (os : Os) : laidMet Tryz.prog Rows.streamNilRow.laid ((laidWorld os).forCall (fun _ _ => 0) ⟨#[], #[.agg #[.int .i64 0, .int .i64 0, .int .i64 0, .string .empty, .string .empty]], []⟩).memory :=
  laidMet_of_run' 8 (by kernel_rfl) (by kernel_rfl)
theorem reads (os : Os) {H : Type} (enc : TypeId × Value → H) : ∃ places, DataW.whole enc Tryz.prog ((laidWorld os).forCall (fun _ _ => 0) ⟨#[], #[.agg #[.int .i64 0, .int .i64 0, .int .i64 0, .string .empty, .string .empty]], []⟩).memory Tryz.f5.params.toList Rows.streamNilSpec.vars false #[Value.agg #[.int .i64 0, .int .i64 0, .int .i64 0, .string .empty, .string .empty]].toList 8 = some ([.agg [.lit (.int .i64 0), .lit (.int .i64 0), .lit (.int .i64 0), .lit (.string []), .lit (.string [])]], [], places) :=
  ⟨[], by kernel_rfl⟩

set_option maxRecDepth 100000 in
theorem lifted (os : Os) (started : os.Started) (H : Type) (enc : TypeId × Value → H) (F : Stop.Interp) :
    ReturnsInHanded {} Tryz.checked os 5 .any ((OpenSpec.ofChange Rows.streamNilSpec).preRow enc Tryz.prog Tryz.f5 Rows.streamNilRow.domain false Rows.streamNilRow.laid) (((OpenSpec.ofChange Rows.streamNilSpec).at F).post enc Tryz.prog Tryz.f5 false true false false) := by
  obtain ⟨places, hx⟩ := reads os enc
  refine returnsInHanded_of_row (C := Tryz.checked) (s := OpenSpec.ofChange Rows.streamNilSpec) own started (by kernel_rfl) Tryz.func5
    (witness_row_at (enc := enc) (C := Tryz.checked) false (laidWorld os) #[.agg #[.int .i64 0, .int .i64 0, .int .i64 0, .string .empty, .string .empty]] rfl (by kernel_rfl) (by kernel_rfl) (by kernel_rfl)
      (OpenSpec.preRow_of_cond 8 hx (by kernel_rfl) (fun k hk => by cases hk) (by kernel_rfl) (laid_met os))) ?_
  intro W base args ds gs before hval hW _ _ _ _ hsh _
  exact contract H enc W base args ds gs before hval hW hsh

theorem said : Rows.StreamNilSaid :=
  OpenClaim.holds_of_cond 5 Tryz.f5 rfl rfl rfl rfl rfl rfl rfl ⟨rfl, rfl, rfl, rfl, rfl⟩ rfl rfl rfl rfl rfl (by kernel_rfl) Tryz.func5 (by kernel_rfl)
    (of_decide_eq_true (by kernel_rfl)) (by unfold Func.isWrapper; first | (rw [if_pos (by decide +kernel)]; kernel_rfl) | (rw [if_neg (by decide +kernel)]; exact ⟨rfl, rfl⟩))
    (fun os started H enc _ F => by rw [OpenClaim.pre_eq_preRow]; exact lifted os started H enc F)

theorem plain (f : FuncId) (fn : Func) (hf : Tryz.pinned.checked.prog.funcNamed "bluebell/bluebelllaw24.StreamNil" = some f) (hfn : Tryz.pinned.checked.prog.funcs[f]? = some fn) :
    true = Tryz.pinned.checked.prog.looks [] ∧ ∀ (j : Nat) t, fn.params[j]? = some t → Tryz.pinned.checked.prog.wantsStandIn t = false := by
  obtain rfl : f = 5 := Option.some.inj ((show Tryz.prog.funcNamed "bluebell/bluebelllaw24.StreamNil" = some 5 by kernel_rfl).symm.trans hf) |>.symm
  obtain rfl : fn = Tryz.f5 := (Option.some.inj (Tryz.func5.symm.trans hfn)).symm
  refine ⟨by kernel_rfl, fun j t ht => ?_⟩
  rw [Tryz.params5] at ht
  have : t = 51 := by simpa using Array.mem_of_getElem? ht
  subst this
  exact (show Tryz.prog.wantsStandIn 51 = false by kernel_rfl)

theorem card : Rows.StreamNilCardSaid :=
  Claim7.holds_tied_plain_at .later [] _ _ _ _ said (fun _ h => by cases h) (by kernel_rfl) (fun _ h => by cases h) streamNil_row_tie rfl ⟨rfl, rfl⟩ (by kernel_rfl) rfl plain (by kernel_rfl)
end Go.Proofs.YtocofoiijfofaaaGreatDoor.nils
