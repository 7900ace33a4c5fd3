/-
  How ArgsFits begins: the variable strconv.ErrRange holds an error.
-/
import Derived.Test.YtdmemibnphcedaaGreatDoorRBckClaimPart36
import Derived.Test.YtdmemibnphcedaaGreatDoorRBckClaimPart43
import Derived.Test.YtdmemibnphcedaaGreatDoorRows
import Derived.Test.YtdmemibnphcedaaGreatDoorChecked
import Derived.Stop.LaidErr
import Derived.LaidLaws
import Derived.LaidSub
import Derived.ProofKit
set_option linter.unusedSimpArgs false
set_option linter.unusedVariables false
set_option maxRecDepth 10000
namespace Go.Proofs.YtdmemibnphcedaaGreatDoor.argsFits
open Go.ChangeShapes Go.WideShapes Go.ChangeAt Go.RowKit Go.Am
attribute [local irreducible] callO

theorem globals9 : Tryz.prog.globals.size = 9 := by kernel_rfl
/-! ### how the run begins: the variable 0 holds some int, the variable ErrRange an error -/
def beginE (m : Int) (te : TypeId) : St := St.put { St.begin m 9 with next := 10 } 2 (some (.row [.iface te (.pointer (some ⟨9, 0, none⟩))] 0 true))
def muE (a : Addr) : Nat → Spot := fun i => if i = 9 then ⟨a.block, a.off, a.off + 1, 0⟩ else ⟨i, 0, 1, 0⟩
theorem beginE_get (m : Int) (te : TypeId) (i : Nat) : (beginE m te).get i = if 2 = i then some (.row [.iface te (.pointer (some ⟨9, 0, none⟩))] 0 true) else if 0 = i then some (.row [.int .i64 m] 0 true) else none := by
 unfold beginE
 rw [St.get_put]
 split
 ·rfl
 ·exact begin_get m 9 i
theorem beginE_max (m : Int) (te : TypeId) : hasMax (beginE m te) = true := by
 unfold hasMax
 rw [beginE_get, if_neg (by decide), if_pos rfl]
theorem beginE_err (m : Int) (te : TypeId) : hasErr (beginE m te) = true := by
 unfold hasErr
 rw [beginE_get, if_pos rfl]
theorem beginE_rel {W : World} {m : Int} {te : TypeId} {a : Addr} (hm : W.cell? ⟨0, 0, none⟩ = some (.int .i64 m)) (he : W.cell? ⟨2, 0, none⟩ = some (.iface te (.pointer (some a)))) (ha : a.spot = none) : Rel W.heap.size W (muE a) (beginE m te) W := by
 have b0 := (cell_lt hm).1
 have b2 := (cell_lt he).1
 refine Rel.start _ (fun i o hi => ?_) (fun i o hi => ?_)
 ·rw [beginE_get] at hi
  split at hi
  ·rename_i h
   subst h
   cases hi
   refine ⟨show 2 < 10 by decide, b2, rfl, by simp [muE], fun j v hj => ?_, fun _ => .inl b2, fun h => by cases h⟩
   cases j with
   | zero =>
    simp at hj
    subst hj
    refine ⟨_, he, .iface _ _ _ ?_⟩
    have := VR.ptr (μ := muE a) (n := (beginE m te).next) 9 0 (show 9 < 10 by decide)
    obtain ⟨ab, ao, sp⟩ := a
    simp only at ha
    subst ha
    exact this
   | succ j => simp at hj
  ·split at hi
   ·rename_i h
    subst h
    cases hi
    refine ⟨show 0 < 10 by decide, b0, rfl, by simp [muE], fun j v hj => ?_, fun _ => .inl b0, fun h => by cases h⟩
    cases j with
    | zero => simp at hj; subst hj; exact ⟨_, hm, .int _ _⟩
    | succ j => simp at hj
   ·cases hi
 ·rw [beginE_get] at hi
  split at hi
  ·cases hi; rfl
  ·split at hi
   ·cases hi; rfl
   ·cases hi
theorem beginE_glob (m : Int) (te : TypeId) (a : Addr) : Glob Tryz.prog (muE a) (beginE m te).next := fun g hg => by
 rw [globals9] at hg
 have h9 : g ≠ 9 := by omega
 refine ⟨by show g < 10; omega, ?_, ?_⟩
 ·unfold muE; rw [if_neg h9]
 ·unfold muE; rw [if_neg h9]

/-! ### what the row says of ErrRange -/
theorem gER : Tryz.prog.globalNamed "strconv.ErrRange" = some 2 := by kernel_rfl
theorem gERType : (Tryz.prog.globals[2]?).map (·.type) = some 94 := by kernel_rfl
theorem star : "*" ++ "errors.errorString" = "*errors.errorString" := by decide
theorem rowES (u : TypeId) (h : Tryz.prog.typeName? 3 u = some "*errors.errorString") : u = 195 :=
 typeName_ptr_named (nm := "errors.errorString") (by rw [star]; kernel_rfl) (by kernel_rfl) (by decide) u (by rw [star]; exact h)
theorem err_laid {W : World} (h : laidMetH Tryz.prog Rows.argsFitsRow.laid W) : ∃ (te : TypeId) (a : Addr), W.cell? ⟨2, 0, none⟩ = some (.iface te (.pointer (some a))) ∧ a.spot = none := by
 have e : (Rows.argsFitsRow.laid.filter fun x => x.2.handleName?.isSome) = [] := by kernel_rfl
 unfold laidMetH at h
 rw [e] at h
 have h2 : laidMet Tryz.prog [("strconv.ErrRange", Rows.laid_strconv_ErrRange)] W := laidMet.filter (fun x => x.1 == "strconv.ErrRange") h
 obtain ⟨a, s0, hv, hc, _, _⟩ := laid_sentinel h2 gER gERType Tryz.underlying94 rowES Tryz.underlying195 Tryz.underlying197 rfl rfl Tryz.underlying9 (by kernel_rfl) (by kernel_rfl)
 have h0 := World.var?_cell gER hv 0
 exact ⟨195, a, by simpa using h0, (cell_lt hc).2⟩

end Go.Proofs.YtdmemibnphcedaaGreatDoor.argsFits
