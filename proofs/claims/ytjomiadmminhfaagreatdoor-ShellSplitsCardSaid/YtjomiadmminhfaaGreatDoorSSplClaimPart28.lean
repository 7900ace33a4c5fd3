/-
  The chapter's Words, and ArgsWords on the second machine.
-/
import Derived.Test.YtjomiadmminhfaaGreatDoorSSplClaimPart24
import Derived.Test.YtjomiadmminhfaaGreatDoorSSplClaimPart25
import Derived.Test.YtjomiadmminhfaaGreatDoorSSplClaimPart27
set_option linter.unusedSimpArgs false
set_option linter.unusedVariables false
set_option maxRecDepth 10000
set_option linter.unusedSectionVars false
namespace Go.Proofs.YtjomiadmminhfaaGreatDoor
open Go.Am

theorem pr_fin {L : List UInt8} {p : Nat} (hp : p ≤ L.length) (h : nxt L p = .fin) : Pr L p L.length := by
 have := blk_pr hp
 rw [(nxt_fin hp).1 h] at this
 exact this
theorem WsR.pr {L : List UInt8} {p : Nat} {r : Option (List (List UInt8 × Bool))} (h : WsR L p r) : p ≤ L.length → ∀ l, r = some l → Pr L p L.length := by
 induction h with
 | fin h => intro hp l _; exact pr_fin hp h
 | bad h => intro hp l e; cases e
 | wd h k ih =>
  intro hp l e
  rw [Option.map_eq_some_iff] at e
  obtain ⟨l', e1, _⟩ := e
  obtain ⟨_, _, _, n4, n5⟩ := nxt_wd hp h
  exact n5.split (ih n4 l' e1)
theorem pr_all {L : List UInt8} (h : Pr L 0 L.length) : L.all prn = true := by
 rw [List.all_eq_true]
 intro c hc
 obtain ⟨i, hi, rfl⟩ := List.getElem_of_mem hc
 exact h i (Nat.zero_le _) hi _ (List.getElem?_eq_getElem hi)

theorem WO.of_none {s : ByteArray} (hs : s.size ≤ 1000) (h : WsR s.data.toList 0 none) : WO s [] 250 := by
 by_cases hr : readA s = 0
 ·exact .inr (.inl ⟨hr, wordsO_eq h, rfl, rfl⟩)
 ·refine .inl ⟨hr, rfl, ?_⟩
  unfold readA at hr ⊢
  rw [if_neg (by omega)] at hr ⊢
  split
  ·rename_i hc; rw [if_pos hc] at hr; exact (hr rfl).elim
  ·rfl
theorem WO.of_some {s : ByteArray} {l : List (List UInt8 × Bool)} (hs : s.size ≤ 1000) (h : WsR s.data.toList 0 (some l)) : WO s l 0 := by
 refine .inr (.inr ⟨?_, wordsO_eq h, rfl⟩)
 unfold readA
 rw [if_neg (by omega), if_pos (pr_all (h.pr (Nat.zero_le _) l rfl))]
theorem WO.of_long {s : ByteArray} (hs : 1000 < s.size) : WO s [] 2 := by
 have : readA s = 2 := by unfold readA; rw [if_pos hs]
 exact .inl ⟨by rw [this]; decide, rfl, this.symm⟩

attribute [local irreducible] callO wopK ropK popK opK grpsE listE sx Runs

/-- between two words -/
def WI (s0 : St) (s : ByteArray) (vs : List Value) (st : St) : Prop :=
 ∃ (p : Nat) (l : List (List UInt8 × Bool)) (v u : Value), vs = [.string s, v, u, .int .i64 (p : Nat)] ∧ p ≤ s.size ∧ (∀ r, WsR s.data.toList p r → WsR s.data.toList 0 (r.map (l ++ ·))) ∧ l.length ≤ p ∧
  GroK 1 st v (wsS l) l.length ∧ GroK 1 st u (wsB l) l.length ∧ (ow v = 0 ∨ s0.next + 1 ≤ ow v) ∧ ow v ≤ st.next ∧ (ow u = 0 ∨ s0.next + 1 ≤ ow u) ∧ ow u ≤ st.next ∧ (ow v = 0 ∨ ow v ≠ ow u) ∧ Frm s0 st

section
variable {st : St} {K : Value → St → Prop}

set_option maxHeartbeats 8000000 in
theorem kWordsR (n : Nat) (s : ByteArray) (hs : s.size ≤ 80000)
  (h : ∀ l e v u st', WO s l e → Cel st' v (wsS l) → Cel st' u (wsB l) → ow v ≤ st'.next ∧ ow u ≤ st'.next → Frm st st' → K (.tuple #[v, u, .int .i64 e]) st') :
  callK (callO T0 orc fns 100000 (n + 2)) 22 [.string s] st K := by
 refine fn_runs (fn := g22) ?_ ?_ ?_
 ·rfl
 ·rfl
 unfold g22
 have hsz := size_list s
 simp (disch := omega) only [↓sxA, ↓wk_store, sxB, sxP, simprocAttr]
 refine iteI (fun c => ?_) (fun c => ?_)
 ·exact h [] 2 _ _ st (WO.of_long (by omega)) (.inl ⟨rfl, rfl⟩) (.inl ⟨rfl, rfl⟩) ⟨Nat.zero_le _, Nat.zero_le _⟩ (Frm.refl _)
 refine loop_rule [0, 5, 6, 7] (WI st s) (fun vs _ => match lget vs 3 with
   | .int _ k => ((s.size : Int) - k).toNat
   | _ => 0) ?_ ?_ ?_
 ·rfl
 ·refine ⟨_, rfl, ⟨0, [], _, _, rfl, Nat.zero_le _, fun r hr => by cases r <;> simpa using hr, Nat.le_refl _, GroK.nil _ _, GroK.nil _ _, .inl rfl, Nat.zero_le _, .inl rfl, Nat.zero_le _, .inl rfl, Frm.refl _⟩, ?_⟩
  show ((s.size : Int) - 0).toNat < 100000
  omega
 ·rintro vs s1 ⟨p, l, v, u, rfl, hp, hW, hl, g1, g2, o1, o2, o3, o4, o5, F⟩
  show sx _ _ _ _ _ [(0, _), (5, _), (6, _), (7, _)] _ _ _ _
  have hpL : p ≤ s.data.toList.length := by omega
  simp (disch := omega) only [↓sxA, ↓wk_store, sxB, sxP, simprocAttr]
  refine kNextR n s hs p hp fun w more good s2 hwd F2 => ?_
  unfold WdR at hwd
  split at hwd
  ·-- the end
   rename_i hn
   obtain ⟨rfl, rfl, rfl⟩ := hwd
   obtain ⟨s4, st4, hb4, n4, G4⟩ := wdBox4 s2 (.string .empty) (.bool false) (.int .i64 0) (.int .i64 0) rfl rfl rfl rfl
   simp (disch := omega) only [↓sxA, ↓wk_store, sxB, sxP, simprocAttr, ↓st4]
   have Fx := F2.trans G4
   have hw0 := hW _ (.fin hn)
   rw [Option.map_some, List.append_nil] at hw0
   refine h l 0 v u s4 (WO.of_some (by omega) hw0) (g1.keep fun i hi => Fx.old i (by omega)).cel.1 (g2.keep fun i hi => Fx.old i (by omega)).cel.1 ⟨by have := Fx.nx; omega, by have := Fx.nx; omega⟩ (F.trans Fx)
  ·-- the error
   rename_i fr hn
   obtain ⟨rfl, rfl, ws, qq, tt, rfl⟩ := hwd
   obtain ⟨s4, st4, hb4, n4, G4⟩ := wdBox4 s2 (.string ws) (.bool qq) (.int .i64 (fr : Nat)) (.int .i64 tt) rfl rfl rfl rfl
   simp (disch := omega) only [↓sxA, ↓wk_store, sxB, sxP, simprocAttr, ↓st4]
   have Fx := F2.trans G4
   have hw0 := hW _ (.bad hn)
   exact h [] 250 _ _ s4 (WO.of_none (by omega) hw0) (.inl ⟨rfl, rfl⟩) (.inl ⟨rfl, rfl⟩) ⟨Nat.zero_le _, Nat.zero_le _⟩ (F.trans Fx)
  ·-- a word
   rename_i w q fr to hn
   obtain ⟨rfl, rfl, rfl⟩ := hwd
   obtain ⟨n1, n2, n3, n4, n5⟩ := nxt_wd hpL hn
   obtain ⟨s4, st4, hb4, m4, G4⟩ := wdBox4 s2 (.string (bs w)) (.bool q) (.int .i64 (fr : Nat)) (.int .i64 (to : Nat)) rfl rfl rfl rfl
   have Fx := F2.trans G4
   have c0 := hb4
   simp (disch := omega) only [↓sxA, ↓wk_store, sxB, sxP, simprocAttr, ↓st4, hb4]
   refine appendK (n := l.length) (g1.keep fun i hi => ?_) (get_new_same _ _) rfl (by decide) rfl (by omega) (by omega) fun s5 a1 a2 a3 => ?_
   ·rw [get_new_ne _ _ _ (by have := Fx.nx; omega)]; exact Fx.old i (by omega)
   have e5 : s5.next = s4.next + 2 := a2
   have nx1 := Fx.nx
   have nx2 := F2.nx
   have fr5 : ∀ i, i + 1 ≠ ow v → i < s4.next → s5.get i = s4.get i := fun i h1 h2 => (a3 i h1 (by show i < s4.next + 1; omega)).trans (get_new_ne _ _ _ (by omega))
   have x5 : s5.get s2.next = some (.row [.string (bs w), .bool q, .int .i64 (fr : Nat), .int .i64 (to : Nat)] 0 false) := (fr5 _ (by omega) (by omega)).trans hb4
   simp (disch := omega) only [↓sxA, ↓wk_store, sxB, sxP, simprocAttr, x5]
   refine appendK (n := l.length) (g2.keep fun i hi => ?_) (get_new_same _ _) rfl (by decide) rfl (by omega) (by omega) fun s6 b1 b2 b3 => ?_
   ·rw [get_new_ne _ _ _ (by omega), fr5 i (by omega) (by omega)]; exact Fx.old i (by omega)
   have e6 : s6.next = s5.next + 2 := b2
   have fr6 : ∀ i, i + 1 ≠ ow u → i < s5.next → s6.get i = s5.get i := fun i h1 h2 => (b3 i h1 (by show i < s5.next + 1; omega)).trans (get_new_ne _ _ _ (by omega))
   have x6 : s6.get s2.next = some (.row [.string (bs w), .bool q, .int .i64 (fr : Nat), .int .i64 (to : Nat)] 0 false) := (fr6 _ (by omega) (by omega)).trans x5
   simp (disch := omega) only [↓sxA, ↓wk_store, sxB, sxP, simprocAttr, x6]
   have hS : wsS l ++ [.string (bs w)] = wsS (l ++ [(w, q)]) := by simp [wsS]
   have hB : wsB l ++ [.bool q] = wsB (l ++ [(w, q)]) := by simp [wsB]
   have hLn : l.length + 1 = (l ++ [(w, q)]).length := by simp
   refine ⟨_, rfl, ⟨to, l ++ [(w, q)], .slice (some ⟨s4.next + 1, 0, none⟩) (l.length + 1) (l.length + 1), .slice (some ⟨s5.next + 1, 0, none⟩) (l.length + 1) (l.length + 1), rfl, by omega, fun r hr => ?_, by simp; omega, ?_, ?_, .inr ?_, ?_, .inr ?_, ?_, .inr ?_, ?_⟩, ?_⟩
   ·have := hW _ (.wd hn hr)
    cases r with
    | none => simpa using this
    | some r => simpa using this
   ·rw [← hS, ← hLn]
    exact a1.keep fun i hi => fr6 i (by show i + 1 ≠ ow u; have : i + 1 = s4.next + 1 + 1 := hi; omega) (by have : i + 1 = s4.next + 1 + 1 := hi; omega)
   ·rw [← hB, ← hLn]
    exact b1
   ·show st.next + 1 ≤ s4.next + 1 + 1
    have := F.nx
    omega
   ·show s4.next + 1 + 1 ≤ s6.next
    omega
   ·show st.next + 1 ≤ s5.next + 1 + 1
    have := F.nx
    omega
   ·show s5.next + 1 + 1 ≤ s6.next
    omega
   ·show s4.next + 1 + 1 ≠ s5.next + 1 + 1
    omega
   ·have fn := F.nx
    exact ⟨by omega, fun i hi => (fr6 i (by omega) (by omega)).trans ((fr5 i (by omega) (by omega)).trans ((Fx.old i (by omega)).trans (F.old i hi)))⟩
   ·show ((s.size : Int) - (to : Nat)).toNat < ((s.size : Int) - (p : Nat)).toNat
    omega
end
end Go.Proofs.YtjomiadmminhfaaGreatDoor
