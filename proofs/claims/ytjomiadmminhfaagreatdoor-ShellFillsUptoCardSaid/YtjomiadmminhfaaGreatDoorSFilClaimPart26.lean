/-
  The words of a line: the program's iterator, walked by the kit's steps.
-/
import Derived.RangeFuncNested
import Derived.RangeFuncBound
import Derived.RangeFuncCalls
import Derived.RangeFuncLeaves
import Derived.RangeFuncBox
import Derived.Shelf.Abstract
import Derived.Shelf.RegionOpen
import Derived.WalkKit
import Derived.OwnWalkIn
import Derived.TacticsInMore
import Derived.LoopNIn
import Derived.LoopIn
import Derived.Maps.AppendAt
import Derived.Test.YtjomiadmminhfaaGreatDoorSFilClaimPart25
set_option linter.unusedSimpArgs false
set_option linter.unusedVariables false
set_option maxRecDepth 10000
namespace Go.Proofs.YtjomiadmminhfaaGreatDoor
open Go.RowKit Go.Shelf

attribute [local go_sem] Oper.semAt_some

theorem grown_of {W W' : World} (hb : Below W.heap.size W W') : W.grownBy W' none := ⟨hb.os, hb.tape, hb.output, hb.size, fun k hk _ => hb.block k hk⟩

/-- what a round keeps: what lay before, and the line -/
def KpW (n₀ Bn : Nat) (s : ByteArray) (W W' : World) : Prop := Below n₀ W W' ∧ (Boxed W Bn 9 (.string s) → Boxed W' Bn 9 (.string s))
theorem KpW.trans {n₀ Bn : Nat} {s : ByteArray} {A B C : World} (h : KpW n₀ Bn s A B) (k : KpW n₀ Bn s B C) : KpW n₀ Bn s A C := ⟨h.1.trans k.1, fun x => k.2 (h.2 x)⟩
def encW (x : WV) : Array Value := #[.agg #[.string x.1, .int .i64 x.2.1, .bool x.2.2]]

theorem wd_cases {L : List UInt8} {p : Nat} {t : ByteArray} {a : Int} {q : Bool} {e1 : Int} (h : wdVal L p (.agg #[.string t, .int .i64 a, .bool q]) e1) :
  (nxt L p = .fin ∧ e1 = 0) ∨ (∃ fr, nxt L p = .bad fr ∧ q = true ∧ e1 = -1) ∨ ∃ s fr to, nxt L p = .wd s q fr to ∧ t = bs s ∧ a = (fr : Nat) ∧ e1 = (to : Nat) := by
 unfold wdVal at h
 split at h
 ·rename_i h1; exact .inl ⟨h1, h.2⟩
 ·rename_i fr h1
  obtain ⟨⟨s', a', h2⟩, h3⟩ := h
  simp at h2
  exact .inr (.inl ⟨fr, h1, h2.2.2, h3⟩)
 ·rename_i s' q' fr to h1
  obtain ⟨h2, h3⟩ := h
  simp at h2
  obtain ⟨rfl, rfl, rfl⟩ := h2
  exact .inr (.inr ⟨s', fr, to, h1, rfl, rfl, h3⟩)

set_option maxRecDepth 100000 in
set_option maxHeartbeats 1000000 in
theorem words1_in (n : Nat) (hn : 1 ≤ n) (l Bn n₀ : Nat) (s : ByteArray) (hs : s.size ≤ 90000) (hr : s.data.toList.all prn = true) (m : Int) (J Jx : List WV → World → Prop) (W : World) (hJ : AbidesFrom W.heap.size J) (hJx : AbidesFrom W.heap.size Jx)
    (hY : ∀ pre x W, J pre W → pre.length < s.size + 1 → YieldAt Fence.wide (n - 1) Tryz.prog l (encW x) W fun e W' =>
      (e = .returned (.bool true) ∧ J (pre ++ [x]) W' ∧ KpW n₀ Bn s W W') ∨ (e = .returned (.bool false) ∧ Jx (pre ++ [x]) W'))
    (hBn : Boxed W Bn 9 (.string s)) (hm : W.cell? ⟨0, 0, none⟩ = some (.int .i64 m)) (h00 : 0 < n₀) (hnW : n₀ ≤ W.heap.size) (h0 : J [] W) :
    CallsIn Fence.wide n Tryz.prog 79 #[.func (.yield l) #[] #[], .pointer (some ⟨Bn, 0, none⟩)] W fun e W' => (∃ v, e = .returned v) ∧
      ((∃ xs, AllW s.data.toList xs ∧ J xs W') ∨ (∃ pre, PartW s.data.toList pre ∧ Jx pre W')) := by
  refine callsIn_of_wp Tryz.func79 rfl trivial ?_ rfl
  simp only [Tryz.ntmps79, List.size_toArray, List.length_cons, List.length_nil, Nat.reduceAdd, Nat.reduceSub, Array.replicate_succ, Array.replicate_zero, List.push_toArray, List.append_toArray, List.nil_append, List.cons_append]
  gi_wp2
  gi_loopw [3] (fun p wr => ∃ (pre : List WV) (at' : Nat), p = .int .i64 at' ∧ Path s.data.toList pre at' ∧ J pre wr ∧ Boxed wr Bn 9 (.string s) ∧ wr.cell? ⟨0, 0, none⟩ = some (.int .i64 m) ∧ n₀ ≤ wr.heap.size ∧ Below n₀ W wr)
    (fun p _ => s.size - (intOf p).toNat)
  case atStart =>
    exact ⟨[], 0, rfl, .nil, h0, hBn, hm, hnW, Below.refl _ _⟩
  case round =>
    obtain ⟨pre, at', rfl, hP, hJs, hX1, hm1, hn1, hbl⟩ := hrel
    have hB1 := hX1.cell
    have hsz := size_list s
    obtain ⟨pl1, pl2, pl3⟩ := hP.le
    gi_wp2_with (refine ⟨trivial, ?_⟩; gi_at_call 80; refine (callsIn_wide.2 (next_calls s hs hr at' (by omega) _ m hm1 (by omega))).mono ?_; rintro e w' ⟨⟨t, a, q, e1, hw, rfl⟩, hb'⟩; have hz' := hb'.size; have hJA := hJ pre wr (w'.alloc (.cells #[.string t, .int .i64 a, .bool q] 89)) none hJs (grown_of (hb'.alloc hz' _)) (fun r e => by cases e); have hJB := hJ pre wr (w'.alloc (.cells #[.string t, .int .i64 (-1), .bool q] 89)) none hJs (grown_of (hb'.alloc hz' _)) (fun r e => by cases e); obtain ⟨fnA, tmA, asA, boA, hyA, hRA⟩ := hY pre (t, a, q) _ hJA (by omega); obtain ⟨fnB, tmB, asB, boB, hyB, hRB⟩ := hY pre (t, -1, q) _ hJB (by omega); dsimp only [encW] at hyA hyB)
    · -- the end
      have he : e1 = 0 := by have hh : (e1 == 0) = true := by assumption
                             exact eq_of_beq hh
      refine bodyPost_ret (results_none rfl _ _ _) rfl ?_
      refine ⟨⟨_, rfl⟩, .inl ⟨pre, .inl ⟨at', hP, ?_⟩, hJA⟩⟩
      rcases wd_cases hw with ⟨h1, _⟩ | ⟨fr, h1, _, h2⟩ | ⟨s', fr, to, h1, _, _, h2⟩
      · exact h1
      · omega
      · have := (nxt_wd pl1 h1).2.2.1
        omega
    · -- the error
      have he : e1 < 0 := by assumption
      have hbad : q = true ∧ ∃ fr, nxt s.data.toList at' = .bad fr := by
        rcases wd_cases hw with ⟨_, h2⟩ | ⟨fr, h1, h2, _⟩ | ⟨s', fr, to, h1, _, _, h2⟩
        · omega
        · exact ⟨h2, fr, h1⟩
        · omega
      obtain ⟨rfl, fr, hfr⟩ := hbad
      refine hRB.mono ?_
      rintro e W3 (⟨rfl, hJ3, hk3⟩ | ⟨rfl, hJx3⟩)
      · gi_wp2
        refine bodyPost_ret (results_none rfl _ _ _) rfl ?_
        exact ⟨⟨_, rfl⟩, .inl ⟨_, .inr ⟨pre, at', fr, t, rfl, hP, hfr⟩, hJ3⟩⟩
      · gi_wp2
        refine bodyPost_ret (results_none rfl _ _ _) rfl ?_
        exact ⟨⟨_, rfl⟩, .inr ⟨_, .inr ⟨pre, at', fr, t, rfl, hP, hfr⟩, hJx3⟩⟩
    · -- a word
      have he : ¬ e1 = 0 := by have hh : (e1 == 0) = false := by assumption
                               exact ne_of_beq_false hh
      have he2 : ¬ e1 < 0 := by have hh : 0 ≤ e1 := by assumption
                                omega
      obtain ⟨s', fr, to, h1, rfl, rfl, rfl⟩ : ∃ s' fr to, nxt s.data.toList at' = .wd s' q fr to ∧ t = bs s' ∧ a = (fr : Nat) ∧ e1 = (to : Nat) := by
        rcases wd_cases hw with ⟨_, h2⟩ | ⟨fr, _, _, h2⟩ | ⟨s', fr, to, h⟩
        · exact absurd h2 he
        · omega
        · exact ⟨s', fr, to, h⟩
      obtain ⟨_, k2, k3, k4, _⟩ := nxt_wd pl1 h1
      have hb0 := hb'.alloc hz' (.cells #[.string (bs s'), .int .i64 (fr : Nat), .bool q] 89)
      refine hRA.mono ?_
      rintro e W3 (⟨rfl, hJ3, hk3⟩ | ⟨rfl, hJx3⟩)
      · gi_wp2
        go_roundw
        case rel => exact ⟨pre ++ [(bs s', (fr : Int), q)], to, rfl, hP.snoc h1, hJ3, hk3.2 (hX1.kept (grown_of hb0) (by simp)), (hk3.1.cell (p := ⟨0, 0, none⟩) h00).trans ((hb0.cell (p := ⟨0, 0, none⟩) (by show 0 < wr.heap.size; omega)).trans hm1), Nat.le_trans hn1 (Nat.le_trans hb0.size hk3.1.size), hbl.trans ((hb0.mono hn1).trans hk3.1)⟩
        case measure => simp [intOf]; omega
      · gi_wp2
        refine bodyPost_ret (results_none rfl _ _ _) rfl ?_
        exact ⟨⟨_, rfl⟩, .inr ⟨_, .inl ⟨to, hP.snoc h1⟩, hJx3⟩⟩

theorem words_in (n : Nat) (s : ByteArray) (w : World) :
  CallsIn Fence.wide n Tryz.prog 49 #[.string s] w fun e w' => e = .returned (.func (.func 79) #[] #[.pointer (some ⟨w.heap.size, 0, none⟩)]) ∧ w' = w.alloc (.cells #[.string s] 9) := by
 refine callsIn_of_wp Tryz.func49 rfl trivial ?_ rfl
 simp only [Tryz.ntmps49, List.size_toArray, List.length_cons, List.length_nil, Nat.reduceAdd, Nat.reduceSub, Array.replicate_succ, Array.replicate_zero, List.push_toArray, List.append_toArray, List.nil_append, List.cons_append]
 gi_wp2
 go_ret
 exact ⟨rfl, rfl⟩

theorem words_stops (n : Nat) (hn : 1 ≤ n) (Bn n₀ : Nat) (s : ByteArray) (hs : s.size ≤ 90000) (hr : s.data.toList.all prn = true) (m : Int) (w : World) (hBn : Boxed w Bn 9 (.string s)) (hm : w.cell? ⟨0, 0, none⟩ = some (.int .i64 m)) (h00 : 0 < n₀) (hnW : n₀ ≤ w.heap.size) :
  SeqStopsK Fence.wide n Tryz.prog 79 #[.pointer (some ⟨Bn, 0, none⟩)] encW (KpW n₀ Bn s) (AllW s.data.toList) (PartW s.data.toList) (s.size + 1) w := fun l J Jx W hW hJ hJx hY h0 =>
 words1_in n hn l Bn n₀ s hs hr m J Jx W hJ hJx hY (hBn.kept (grown_of hW) (by simp)) ((hW.cell (p := ⟨0, 0, none⟩) (by show 0 < w.heap.size; omega)).trans hm) h00 (Nat.le_trans hnW hW.size) h0
end Go.Proofs.YtjomiadmminhfaaGreatDoor
