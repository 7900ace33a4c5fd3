/-
  sync.Once's own calls: the flag's load and store, the lock taken and let go: one goroutine.
-/
import Derived.Test.YtdmemibnphcedaaGreatDoorRBckClaimPart10
import Derived.Test.YtdmemibnphcedaaGreatDoorProg
import Derived.Tactics
import Derived.Tactics2
import Derived.Defers
import Derived.Laws.Pointers
import Derived.Laws.LoneSync
import Derived.RegionTactic
import Derived.RegionCalls
import Derived.ChangeAlike
set_option linter.unusedSimpArgs false
set_option linter.unusedVariables false
set_option maxRecDepth 10000
namespace Go.Proofs.YtdmemibnphcedaaGreatDoor
open Go.RowKit

theorem raceOff (w : World) : (callFunc 173 #[]).run Tryz.prog w = .ok (.value (.tuple #[])) w := run_call_mark0 Tryz.func173 (by kernel_rfl) (by kernel_rfl) (by kernel_rfl) .disable (by kernel_rfl) w
theorem raceOn (w : World) : (callFunc 175 #[]).run Tryz.prog w = .ok (.value (.tuple #[])) w := run_call_mark0 Tryz.func175 (by kernel_rfl) (by kernel_rfl) (by kernel_rfl) .enable (by kernel_rfl) w
theorem raceAcq (a : Addr) (w : World) : (callFunc 176 #[.pointer (some a)]).run Tryz.prog w = .ok (.value (.tuple #[])) w := run_call_marked Tryz.func176 (by kernel_rfl) (by kernel_rfl) (by kernel_rfl) .acquire (by kernel_rfl) a w
theorem raceRel (a : Addr) (w : World) : (callFunc 178 #[.pointer (some a)]).run Tryz.prog w = .ok (.value (.tuple #[])) w := run_call_marked Tryz.func178 (by kernel_rfl) (by kernel_rfl) (by kernel_rfl) .releaseMerge (by kernel_rfl) a w

/-- the flag is read -/
theorem load_calls (a : Addr) (x : Int) (w : World) (hc : w.cell? a = some (.int .u32 x)) :
  Calls Tryz.prog 140 #[.pointer (some a)] w fun e w' => e = .returned (.bool (x != 0)) ∧ w' = w := by
 have hl := run_call_load (P := Tryz.prog) Tryz.func151 (by kernel_rfl) (by kernel_rfl) (by kernel_rfl) .u32 (by kernel_rfl) hc
 go_enter Tryz.func140, Tryz.ntmps140
 go_wp2
 refine bodyPost_ret (results_tmp rfl _ _ _) rfl ?_
 exact ⟨rfl, rfl⟩

/-- the flag is set, as a deferred call -/
theorem store_deferred (a : Addr) (x : Value) (u : FrameMode) (w : World) (hc : w.cell? a = some x) (hz : w.frozen? a = false) :
  CallsD Tryz.prog 154 #[.pointer (some a), .bool true] u w fun e u' w' => u' = u ∧ (e = .returned (.tuple #[]) ∧ w' = w.drew.setCell a (.int .u32 1)) := by
 have hc' : w.drew.cell? a = some x := by go_simp
 have hz' : w.drew.frozen? a = false := by go_simp
 have hst := run_call_store (P := Tryz.prog) Tryz.func162 (by kernel_rfl) (by kernel_rfl) (by kernel_rfl) (by kernel_rfl) (k := .u32) (y := 1) hc' hz'
 go_enter_d Tryz.func154, Tryz.ntmps154
 go_wp2
 go_region_calls
 all_goals (go_end0; exact ⟨rfl, rfl⟩)

/-- the lock is let go -/
theorem unlock_calls (a : Addr) (w : World) (hc : w.cell? a = some (.int .i32 1)) (hz : w.frozen? a = false) :
  Calls Tryz.prog 161 #[.pointer (some a)] w fun e w' => e = .returned (.tuple #[]) ∧ w' = w.setCell a (.int .i32 0) := by
 have hd := raceOff
 have he := raceOn
 have hr := raceRel
 have hadd := run_call_add (P := Tryz.prog) Tryz.func179 (by kernel_rfl) (by kernel_rfl) (by kernel_rfl) .i32 (by kernel_rfl) (y := -1) (s := 0) hc hz (by simp [go_sem]; rfl)
 have hcv := run_convert_to_unsafe (P := Tryz.prog) (src := 239) (dst := 175) Tryz.underlying239 Tryz.underlying175 (by kernel_rfl) hc
 go_enter Tryz.func161, Tryz.ntmps161
 go_wp2
 go_end0
 exact ⟨rfl, rfl⟩

/-- the lock is taken -/
theorem lock_calls (a : Addr) (w : World) (hc : w.cell? a = some (.int .i32 0)) (hz : w.frozen? a = false) :
  Calls Tryz.prog 160 #[.pointer (some a)] w fun e w' => e = .returned (.tuple #[]) ∧ w' = w.setCell a (.int .i32 1) := by
 have hd := raceOff
 have he := raceOn
 have ha := raceAcq
 have hcas := run_call_cas_hit (P := Tryz.prog) Tryz.func174 (by kernel_rfl) (by kernel_rfl) (by kernel_rfl) .i32 (by kernel_rfl) (y := 1) hc hz
 have hc' : (w.setCell a (.int .i32 1)).cell? a = some (.int .i32 1) := World.cell?_setCell_same w a _ hc
 have hcv := run_convert_to_unsafe (P := Tryz.prog) (src := 239) (dst := 175) Tryz.underlying239 Tryz.underlying175 (by kernel_rfl) hc'
 go_enter Tryz.func160, Tryz.ntmps160
 go_wp2
 first | go_end0 | (simp only [Exit.inBlock, Exit.then]; refine bodyPost_ret (results_none rfl _ _ _) rfl ?_) | refine bodyPost_ret (results_none rfl _ _ _) rfl ?_
 exact ⟨rfl, rfl⟩

open Go.Am

section
variable {B0 : Nat} {W0 : World} {μ : Nat → Spot} {s : St} {w : World}

/-- an owned cell that is known -/
theorem cell_owned (hr : Rel B0 W0 μ s w) {b o : Nat} {cs : List Value} {g : Nat} (hg : s.get b = some (.row cs g false)) {k : IntKind} {x : Int} (hc : cs[o]? = some (.int k x)) :
  w.cell? ⟨(μ b).block, (μ b).base + o, none⟩ = some (.int k x) ∧ w.frozen? ⟨(μ b).block, (μ b).base + o, none⟩ = false := by
 have hid := (hr.known b _ hg).2.2
 obtain ⟨v', h1, h2⟩ := hid.cellAt hc
 cases h2
 obtain ⟨_, hlim, _, _, hown⟩ := hid
 have hlt : o < cs.length := (List.getElem?_eq_some_iff.1 hc).1
 exact ⟨h1, ((hown rfl).2.1 _ (by omega) (by omega)).2⟩

theorem set_owned (hr : Rel B0 W0 μ s w) {b o : Nat} {cs : List Value} {g : Nat} (hg : s.get b = some (.row cs g false)) {k : IntKind} {x y : Int} (hc : cs[o]? = some (.int k x)) :
  Rel B0 W0 μ (s.put b (some (.row (lputs cs o [.int k y]) g false))) (w.setCell ⟨(μ b).block, (μ b).base + o, none⟩ (.int k y)) := by
 have hlt : o < cs.length := (List.getElem?_eq_some_iff.1 hc).1
 exact hr.stored hg o [.int k y] [.int k y] (.cons _ _ _ _ (.int _ _) .nil) (by simp; omega)
end

/-- the cell o of the row b, where it is the number x of the kind k, becomes y -/
def swapAt (st : St) (b o : Nat) (k : IntKind) (x y : Int) : Option St :=
 match st.get b with
 | some (.row cs g false) => match cs[o]? with
  | some (.int k' x') => if k' = k ∧ x' = x then some (st.put b (some (.row (lputs cs o [.int k y]) g false))) else none
  | _ => none
 | _ => none

theorem swapAt_some {st st' : St} {b o : Nat} {k : IntKind} {x y : Int} (h : swapAt st b o k x y = some st') : ∃ cs g, st.get b = some (.row cs g false) ∧ cs[o]? = some (.int k x) ∧ st' = st.put b (some (.row (lputs cs o [.int k y]) g false)) := by
 unfold swapAt at h
 split at h
 ·rename_i cs g hg
  split at h
  ·rename_i k' x' hc
   split at h
   ·rename_i hk
    obtain ⟨rfl, rfl⟩ := hk
    cases h
    exact ⟨cs, g, hg, hc, rfl⟩
   ·cases h
  ·cases h
 ·cases h

/-- the flag, the lock -/
def lockO (f b o : Nat) (st : St) : Out (Value × St) :=
 if f = 140 then (match st.get b with
  | some (.row cs g false) => (match cs[o]? with
   | some (.int .u32 x) => .ret (.bool (x != 0), st)
   | _ => .fail)
  | _ => .fail)
 else if f = 160 then (match swapAt st b o .i32 0 1 with
  | some st' => .ret (.tuple #[], st')
  | none => .fail)
 else if f = 161 then (match swapAt st b o .i32 1 0 with
  | some st' => .ret (.tuple #[], st')
  | none => .fail)
 else .fail

theorem ptr_args {μ : Nat → Spot} {n b o : Nat} {args : List Value} (h : VRs μ n [.pointer (some ⟨b, o, none⟩)] args) : args = [.pointer (some ⟨(μ b).block, (μ b).base + o, none⟩)] := by
 cases h with | cons _ _ _ _ h1 h2 => cases h1; cases h2; rfl

theorem lockO_sound {f b o : Nat} {st : St} {Q : Value × St → Prop} (h : (lockO f b o st).all Q) : (∃ fn, Tryz.prog.funcs[f]? = some fn ∧ fn.body.isSome = true ∧ (fn.name == "runtime.NumGoroutine") = false) ∧ CallOk Tryz.prog f [.pointer (some ⟨b, o, none⟩)] st Q := by
 unfold lockO at h
 split at h
 ·rename_i hf
  subst hf
  refine ⟨⟨Tryz.f140, Tryz.func140, by kernel_rfl, by kernel_rfl⟩, ?_⟩
  split at h
  ·rename_i cs g hg
   split at h
   ·rename_i x hc
    intro B0 W0 μ w args hr hgl ha
    rw [ptr_args ha]
    refine (load_calls _ x w (cell_owned hr hg hc).1).mono fun e w' ⟨he, hw⟩ => ?_
    subst hw
    exact ⟨_, st, _, h, he, μ, Agree.refl _ _, hr, .bool _⟩
   ·exact h.elim
  ·exact h.elim
 ·split at h
  ·rename_i hf
   subst hf
   refine ⟨⟨Tryz.f160, Tryz.func160, by kernel_rfl, by kernel_rfl⟩, ?_⟩
   split at h
   ·rename_i st' hs
    obtain ⟨cs, g, hg, hc, rfl⟩ := swapAt_some hs
    intro B0 W0 μ w args hr hgl ha
    rw [ptr_args ha]
    obtain ⟨h1, h2⟩ := cell_owned hr hg hc
    refine (lock_calls _ w h1 h2).mono fun e w' ⟨he, hw⟩ => ?_
    subst hw
    exact ⟨_, _, _, h, he, μ, Agree.refl _ _, set_owned hr hg hc, .tuple _ _ .nil⟩
   ·exact h.elim
  ·split at h
   ·rename_i hf
    subst hf
    refine ⟨⟨Tryz.f161, Tryz.func161, by kernel_rfl, by kernel_rfl⟩, ?_⟩
    split at h
    ·rename_i st' hs
     obtain ⟨cs, g, hg, hc, rfl⟩ := swapAt_some hs
     intro B0 W0 μ w args hr hgl ha
     rw [ptr_args ha]
     obtain ⟨h1, h2⟩ := cell_owned hr hg hc
     refine (unlock_calls _ w h1 h2).mono fun e w' ⟨he, hw⟩ => ?_
     subst hw
     exact ⟨_, _, _, h, he, μ, Agree.refl _ _, set_owned hr hg hc, .tuple _ _ .nil⟩
    ·exact h.elim
   ·exact h.elim

/-- the deferred call: the flag is set -/
def dfrO : CallF := fun f args st =>
 match args with
 | [.pointer (some ⟨b, o, none⟩), .bool true] => if f = 154 then (match swapAt st b o .u32 0 1 with
  | some st' => .ret (.tuple #[], st')
  | none => .fail) else .fail
 | _ => .fail

theorem dfrO_sound : DSound Tryz.prog dfrO := by
 intro f vs s Q h
 unfold dfrO at h
 split at h
 ·rename_i b o
  split at h
  ·rename_i hf
   subst hf
   refine ⟨⟨Tryz.f154, Tryz.func154, by kernel_rfl, by kernel_rfl⟩, ?_⟩
   split at h
   ·rename_i st' hs
    obtain ⟨cs, g, hg, hc, rfl⟩ := swapAt_some hs
    intro B0 W0 μ w args hr hgl ha
    have ha' : args = [.pointer (some ⟨(μ b).block, (μ b).base + o, none⟩), .bool true] := by
     cases ha with | cons _ _ _ _ h1 h2 =>
      cases h1
      cases h2 with | cons _ _ _ _ h3 h4 => cases h3; cases h4; rfl
    rw [ha']
    obtain ⟨h1, h2⟩ := cell_owned hr hg hc
    refine (store_deferred _ _ .returning w h1 h2).mono fun e u' w' ⟨hu, he, hw⟩ => ?_
    subst hw
    have hd : Rel B0 W0 μ s w.drew := hr.later (Below.drew (Below.refl _ _))
    exact ⟨hu, _, _, _, h, he, μ, Agree.refl _ _, set_owned hd hg hc, .tuple _ _ .nil⟩
   ·exact h.elim
  ·exact h.elim
 ·exact h.elim
end Go.Proofs.YtdmemibnphcedaaGreatDoor
