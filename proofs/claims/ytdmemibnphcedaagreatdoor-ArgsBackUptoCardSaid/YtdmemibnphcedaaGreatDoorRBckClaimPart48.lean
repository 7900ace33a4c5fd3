/-
  ArgsBack on the second machine.
-/
import Derived.Test.YtdmemibnphcedaaGreatDoorRBckClaimPart40
import Derived.Test.YtdmemibnphcedaaGreatDoorRBckClaimPart47
set_option linter.unusedSimpArgs false
set_option linter.unusedVariables false
set_option maxRecDepth 10000
set_option linter.unusedSectionVars false
namespace Go.Proofs.YtdmemibnphcedaaGreatDoor
open Go.Am

theorem fits_ex {L : List UInt8} {l : List IM} : ∀ (m p : Nat) (cs : List Cl), p ≤ L.length → L.length - p ≤ m → ∃ r, Fits L l p cs r
 | m, p, cs, hp, hm => by
  cases h : stepA L l p cs with
  | done r => exact ⟨r, .done h⟩
  | go p' cs' =>
   obtain ⟨g1, g2, _⟩ := stepA_go hp h
   cases m with
   | zero => omega
   | succ m =>
    obtain ⟨r, hr⟩ := fits_ex m p' cs' g2 (by omega)
    exact ⟨r, .go h hr⟩

theorem AgC.same {st : St} {v : Value} {ns ns' : List ByteArray} {cs cs' : List Cl} (h : AgC st v ns cs) (hl : cs.length = cs'.length) (hs : ∀ j, j < cs.length → ns.getD j .empty = ns'.getD j .empty ∧ (clAt cs j).vals = (clAt cs' j).vals ∧ (clAt cs j).set = (clAt cs' j).set) : AgC st v ns' cs' := by
 refine ⟨fun K => by rw [h.1 K, hl], fun j hj => ?_⟩
 obtain ⟨e1, e2, e3⟩ := hs j (by omega)
 have := h.2 j (by omega)
 rw [e1, e2, e3] at this
 exact this

theorem FmtO.ok {t : ByteArray} {ns : List ByteArray} {cs : List Cl} {v : ByteArray} (h : FmtO t ns cs v 0) : ∃ l ws, TmA t l 0 ∧ cs.length = l.length ∧ fmtA l ns cs = some ws ∧ v.data.toList = Lib.join (ws.map (·.data.toList)) [32] ∧ v.size ≤ 1000 := by
 obtain ⟨l, eT, hT, h⟩ := h
 rcases h with ⟨h1, _, h3⟩ | ⟨_, _, _, h3⟩ | ⟨rfl, h2, h3⟩
 ·exact (h1 h3.symm).elim
 ·exact absurd h3 (by decide)
 ·cases hf : fmtA l ns cs with
  | none =>
   rw [hf] at h3
   have h4 : (0 : Int) = 3 := congrArg Prod.snd h3
   exact absurd h4 (by decide)
  | some ws =>
   rw [hf] at h3
   unfold lineE at h3
   simp only at h3
   by_cases hb : 1000 < (Lib.join (ws.map (·.data.toList)) [32]).length
   ·rw [if_pos hb] at h3
    have h4 : (0 : Int) = 2 := congrArg Prod.snd h3
    exact absurd h4 (by decide)
   ·rw [if_neg hb] at h3
    have hv : v = bs (Lib.join (ws.map (·.data.toList)) [32]) := congrArg Prod.fst h3
    exact ⟨l, ws, hT, h2, hf, by rw [hv, bs_list], by rw [hv, bs_size]; omega⟩
theorem FmtO.err {t : ByteArray} {ns : List ByteArray} {cs : List Cl} {v : ByteArray} {e : Int} {l : List IM} (h : FmtO t ns cs v e) (hT : TmA t l 0) : e = 0 ∨ e = 2 ∨ e = 3 := by
 obtain ⟨l', eT, hT', h⟩ := h
 obtain ⟨rfl, rfl⟩ := hT.unique hT'
 rcases h with ⟨h1, _, h3⟩ | ⟨_, _, _, h3⟩ | ⟨_, h2, h3⟩
 ·exact (h1 rfl).elim
 ·exact .inr (.inr h3)
 ·have h4 : e = (lineE (fmtA l ns cs)).2 := congrArg Prod.snd h3
  rw [h4]
  unfold lineE
  split
  ·exact .inr (.inr rfl)
  ·split
   ·exact .inr (.inl rfl)
   ·exact .inl rfl

theorem names_getD {l : List IM} {j : Nat} (hj : j < l.length) : (l.map nm0).getD j .empty = nm0 (itAt l j) := by
 rw [itAt_eq hj]
 simp [List.getD_eq_getElem?_getD, hj]

/-- a line that was written fits, and gives the list -/
theorem fit_back {t s : ByteArray} {l : List IM} {ns : List ByteArray} {cs : List Cl} {ws : List ByteArray} {n : Nat} {st : St} {v : Value} {e : Int} (hO : FitO (QP s.data.toList) t s v e st) (hs : s.size ≤ 1000) (hT : TmA t l 0) (hlen : cs.length = l.length) (hf : fmtA l ns cs = some ws) (hL : s.data.toList = List.replicate n 32 ++ Lib.join (ws.map (·.data.toList)) [32]) : e = 0 ∧ AgC st v ns cs := by
 obtain ⟨c, c1, c2, c3⟩ := back_plain hT hf hL
 have hal : allAlong l ns cs := by
  unfold fmtA at hf
  split at hf
  ·assumption
  ·cases hf
 have hok : okAll l c = true := by
  rw [okAll_iff l c c2.symm]
  intro k hk
  obtain ⟨t1, t2, t3⟩ := tm_parts hT
  have gd : ItGood (itAt l k) := by rw [itAt_eq hk]; exact t3 _ (List.getElem_mem hk)
  obtain ⟨a1, a2, a3, a4, a5⟩ := along_parts (hal k hk) gd
  show okCl (itAt l k) (clAt c k) = true
  unfold okCl
  rw [(c3 k hk).1, (c3 k hk).2, Bool.and_eq_true]
  refine ⟨?_, ?_⟩
  ·cases ha : (itAt l k).mks.a with
   | false => rfl
   | true => rw [a2 ha]; rfl
  ·cases hn : (itAt l k).mks.n with
   | false => rfl
   | true =>
    simp only [Bool.not_true, Bool.false_or, List.all_eq_true]
    intro w hw
    have := a3 w hw
    unfold valOk numOk at this
    rw [hn] at this
    simp only [Bool.and_eq_true, Bool.not_true, Bool.false_or] at this
    exact this.2
 have hres : resA l (some c) = some c := by unfold resA; simp only; rw [if_pos hok]
 rcases hO with ⟨h1, _⟩ | ⟨_, l', e', hT', h⟩
 ·omega
 obtain ⟨rfl, rfl⟩ := hT.unique hT'
 rcases h with ⟨h2, _⟩ | ⟨_, h⟩
 ·exact (h2 rfl).elim
 rcases h with ⟨hq, _⟩ | ⟨c', hq, rfl, hcl, hag⟩
 ·have := hq _ c1
  rw [hres] at this
  cases this
 ·have := hq _ c1
  rw [hres] at this
  obtain rfl := Option.some.inj this
  refine ⟨rfl, hag.agC.same (by omega) fun j hj => ?_⟩
  have hjl : j < l.length := by omega
  refine ⟨?_, c3 j hjl⟩
  rw [names_getD hjl]
  have := hal j hjl
  unfold alongA at this
  simp only [Bool.and_eq_true, decide_eq_true_eq] at this
  exact this.1.1.1.symm

/-- what a line gave, where it fits -/
theorem fit_ok {t s : ByteArray} {st : St} {v : Value} (hO : FitO (QP s.data.toList) t s v 0 st) : s.size ≤ 1000 ∧ ∃ l cs, TmA t l 0 ∧ cs.length = l.length ∧ AgC st v (l.map nm0) cs ∧ SmallN (l.map nm0) cs := by
 rcases hO with ⟨_, h2, _⟩ | ⟨h1, l, e', hT, h⟩
 ·exact absurd h2 (by decide)
 refine ⟨h1, l, ?_⟩
 rcases h with ⟨h2, h3, _⟩ | ⟨rfl, h⟩
 ·exact (h2 h3.symm).elim
 rcases h with ⟨_, h3, _⟩ | ⟨c, hq, _, hcl, hag⟩
 ·exact absurd h3 (by decide)
 obtain ⟨r, hr⟩ := fits_ex (L := s.data.toList) (l := l) _ 0 (cls0 l) (Nat.zero_le _) (Nat.le_refl _)
 have hrs := resA_some (hq r hr)
 have hsm := hr.small (Nat.zero_le _) (sm0 _ l 0) c hrs
 obtain ⟨hl20, _, _⟩ := tm_bounds hT
 obtain ⟨_, _, t3⟩ := tm_parts hT
 have hsz := size_list s
 refine ⟨c, hT, hcl, hag.agC, ⟨by omega, fun j => ?_⟩, fun j => ?_⟩
 ·obtain ⟨k1, k2⟩ := hsm j
  exact ⟨by omega, fun v hv => by have := k2 v hv; omega⟩
 ·by_cases hj : j < l.length
  ·rw [names_getD hj]
   have gd : ItGood (itAt l j) := by rw [itAt_eq hj]; exact t3 _ (List.getElem_mem hj)
   have := gd.2.1
   rw [List.all_eq_true] at this
   have := this _ (nm0_mem gd)
   unfold isNm at this
   simp only [Bool.and_eq_true, decide_eq_true_eq] at this
   omega
  ·have e : (l.map nm0).getD j .empty = .empty := by simp [List.getD_eq_getElem?_getD, List.getElem?_eq_none (show l.length ≤ j by omega)]
   rw [e]
   exact Nat.zero_le _
theorem smallN_vl {ns : List ByteArray} {cs : List Cl} (h : SmallN ns cs) : cs.length < 90000 ∧ ∀ k, (clAt cs k).vals.length < 90000 :=
 ⟨by have := h.1.1; omega, fun k => by have := (h.1.2 k).1; omega⟩
theorem blanks3 (v : ByteArray) : ((⟨#[32, 32, 32]⟩ : ByteArray) ++ v).data.toList = List.replicate 3 32 ++ v.data.toList ∧ ((⟨#[32, 32, 32]⟩ : ByteArray) ++ v).size = 3 + v.size := by
 constructor
 ·simp [ByteArray.data_append]
 ·rw [ByteArray.size_append]; rfl
attribute [local irreducible] callO wopK ropK popK opK grpsE listE sx Runs

section
variable {st : St} {K : Value → St → Prop}

set_option maxHeartbeats 8000000 in
theorem kArgsBack (t line : ByteArray) {av : Value} {ns : List ByteArray} {cs : List Cl} (hA : AgC st av ns cs) (hns : ns.length = cs.length) (hB : Bulk 1048576 ns cs) (h0 : 2 < st.next) (hm : hasMax st = true) (he : hasErr st = true) (h : ∀ st', K (.bool true) st') :
  callK (callO T0 orcU fnsU 2000000 2) 8 [.string t, .string line, av] st K := by
 refine fn_runs (fn := g8) ?_ ?_ ?_
 ·rfl
 ·rfl
 unfold g8
 by_cases ht6 : 600 < t.size
 ·simp (disch := omega) only [↓sxA, ↓wk_store, sxB, sxP, simprocAttr]
  exact h _
 by_cases hl6 : 600 < line.size
 ·simp (disch := omega) only [↓sxA, ↓wk_store, sxB, sxP, simprocAttr]
  exact h _
 simp (disch := omega) only [↓sxA, ↓wk_store, sxB, sxP, simprocAttr]
 refine kLong 0 hA hB ?_ fun htot => ?_
 ·simp (disch := omega) only [↓sxA, ↓wk_store, sxB, sxP, simprocAttr]
  exact h _
 have hsm := small_of hns htot
 obtain ⟨hcl, hvl⟩ := smallN_vl hsm
 simp (disch := omega) only [↓sxA, ↓wk_store, sxB, sxP, simprocAttr]
 refine kBelowU 1 (by rfl) ?_
 refine kFormat _ t (by omega) hA hsm h0 hm he fun v e s1 hO F1 => ?_
 have hcase : (e = 0 ∧ v.size < 990) ∨ (e = 0 ∧ ¬ v.size < 990) ∨ e ≠ 0 := by omega
 rcases hcase with ⟨rfl, h990⟩ | ⟨rfl, h990⟩ | he0
 ·obtain ⟨l, ws, hT, hlen, hf, hv, hv1⟩ := hO.ok
  obtain ⟨b1, b2⟩ := blanks3 v
  simp (disch := omega) only [↓sxA, ↓wk_store, sxB, sxP, simprocAttr]
  refine kBelowU 1 (by rfl) ?_
  refine kFit _ t v (by omega) (Nat.lt_of_lt_of_le h0 F1.nx) (F1.max (by omega) hm) (F1.err h0 he) fun x f s2 hO2 F2 => ?_
  obtain ⟨rfl, hx⟩ := fit_back (n := 0) hO2 (by omega) hT hlen hf (by rw [hv]; rfl)
  have F12 := F1.trans F2
  have hsz : ((⟨#[32, 32, 32]⟩ : ByteArray).size + v.size ≤ 9223372036854775807) := by show 3 + v.size ≤ _; omega
  simp (disch := omega) only [↓sxA, ↓wk_store, sxB, sxP, simprocAttr]
  refine ⟨hsz, ?_⟩
  simp (disch := omega) only [↓sxA, ↓wk_store, sxB, sxP, simprocAttr]
  refine kBelowU 1 (by rfl) ?_
  refine kFit _ t _ (by omega) (Nat.lt_of_lt_of_le h0 F12.nx) (F12.max (by omega) hm) (F12.err h0 he) fun y g s3 hO3 F3 => ?_
  obtain ⟨rfl, hy⟩ := fit_back (n := 3) hO3 (by omega) hT hlen hf (by rw [b1, hv])
  have F13 := F12.trans F3
  simp (disch := omega) only [↓sxA, ↓wk_store, sxB, sxP, simprocAttr]
  refine kBelowU 1 (by rfl) ?_
  refine kEqArgs _ (hx.keep F3) (hA.keep F13) hcl hvl ?_
  simp (disch := omega) only [↓sxA, ↓wk_store, sxB, sxP, simprocAttr]
  refine kBelowU 1 (by rfl) ?_
  refine kEqArgs _ hy (hA.keep F13) hcl hvl ?_
  simp (disch := omega) only [↓sxA, ↓wk_store, sxB, sxP, simprocAttr]
  have FF := F13
  refine kBelowU 1 (by rfl) ?_
  refine kFit _ t line (by omega) (Nat.lt_of_lt_of_le h0 FF.nx) (FF.max (by omega) hm) (FF.err h0 he) fun z e2 s6 hO6 F6 => ?_
  have FG := FF.trans F6
  by_cases hz : e2 = 0
  ·subst hz
   obtain ⟨hls, l2, c2, hT2, hlen2, hag2, hsm2⟩ := fit_ok hO6
   obtain ⟨hcl2, hvl2⟩ := smallN_vl hsm2
   simp (disch := omega) only [↓sxA, ↓wk_store, sxB, sxP, simprocAttr]
   refine kBelowU 1 (by rfl) ?_
   refine kFormat _ t (by omega) hag2 hsm2 (Nat.lt_of_lt_of_le h0 FG.nx) (FG.max (by omega) hm) (FG.err h0 he) fun v3 e3 s7 hO7 F7 => ?_
   have FH := FG.trans F7
   by_cases he3 : e3 = 0
   ·subst he3
    obtain ⟨l3, ws3, hT3, hlen3, hf3, hv3, hv31⟩ := hO7.ok
    simp (disch := omega) only [↓sxA, ↓wk_store, sxB, sxP, simprocAttr]
    refine kBelowU 1 (by rfl) ?_
    refine kFit _ t v3 (by omega) (Nat.lt_of_lt_of_le h0 FH.nx) (FH.max (by omega) hm) (FH.err h0 he) fun w g3 s8 hO8 F8 => ?_
    obtain ⟨rfl, hw⟩ := fit_back (n := 0) hO8 hv31 hT3 hlen3 hf3 (by rw [hv3]; rfl)
    simp (disch := omega) only [↓sxA, ↓wk_store, sxB, sxP, simprocAttr]
    refine kBelowU 1 (by rfl) ?_
    refine kEqArgs _ hw ((hag2.keep F7).keep F8) hcl2 hvl2 ?_
    simp (disch := omega) only [↓sxA, ↓wk_store, sxB, sxP, simprocAttr]
    refine kBelowU 1 (by rfl) ?_
    refine kAwake _ ((FH.trans F8).max (by omega) hm) ?_
    simp (disch := omega) only [↓sxA, ↓wk_store, sxB, sxP, simprocAttr]
    exact h _
   ·rcases hO7.err hT2 with rfl | rfl | rfl
    ·exact (he3 rfl).elim
    all_goals
     simp (disch := omega) only [↓sxA, ↓wk_store, sxB, sxP, simprocAttr]
     refine kBelowU 1 (by rfl) ?_
     refine kAwake _ (FH.max (by omega) hm) ?_
     simp (disch := omega) only [↓sxA, ↓wk_store, sxB, sxP, simprocAttr]
     exact h _
  ·simp (disch := omega) only [↓sxA, ↓wk_store, sxB, sxP, simprocAttr]
   refine kBelowU 1 (by rfl) ?_
   refine kAwake _ (FG.max (by omega) hm) ?_
   simp (disch := omega) only [↓sxA, ↓wk_store, sxB, sxP, simprocAttr]
   exact h _
 ·have FF := F1
  simp (disch := omega) only [↓sxA, ↓wk_store, sxB, sxP, simprocAttr]
  refine kBelowU 1 (by rfl) ?_
  refine kFit _ t line (by omega) (Nat.lt_of_lt_of_le h0 FF.nx) (FF.max (by omega) hm) (FF.err h0 he) fun z e2 s6 hO6 F6 => ?_
  have FG := FF.trans F6
  by_cases hz : e2 = 0
  ·subst hz
   obtain ⟨hls, l2, c2, hT2, hlen2, hag2, hsm2⟩ := fit_ok hO6
   obtain ⟨hcl2, hvl2⟩ := smallN_vl hsm2
   simp (disch := omega) only [↓sxA, ↓wk_store, sxB, sxP, simprocAttr]
   refine kBelowU 1 (by rfl) ?_
   refine kFormat _ t (by omega) hag2 hsm2 (Nat.lt_of_lt_of_le h0 FG.nx) (FG.max (by omega) hm) (FG.err h0 he) fun v3 e3 s7 hO7 F7 => ?_
   have FH := FG.trans F7
   by_cases he3 : e3 = 0
   ·subst he3
    obtain ⟨l3, ws3, hT3, hlen3, hf3, hv3, hv31⟩ := hO7.ok
    simp (disch := omega) only [↓sxA, ↓wk_store, sxB, sxP, simprocAttr]
    refine kBelowU 1 (by rfl) ?_
    refine kFit _ t v3 (by omega) (Nat.lt_of_lt_of_le h0 FH.nx) (FH.max (by omega) hm) (FH.err h0 he) fun w g3 s8 hO8 F8 => ?_
    obtain ⟨rfl, hw⟩ := fit_back (n := 0) hO8 hv31 hT3 hlen3 hf3 (by rw [hv3]; rfl)
    simp (disch := omega) only [↓sxA, ↓wk_store, sxB, sxP, simprocAttr]
    refine kBelowU 1 (by rfl) ?_
    refine kEqArgs _ hw ((hag2.keep F7).keep F8) hcl2 hvl2 ?_
    simp (disch := omega) only [↓sxA, ↓wk_store, sxB, sxP, simprocAttr]
    refine kBelowU 1 (by rfl) ?_
    refine kAwake _ ((FH.trans F8).max (by omega) hm) ?_
    simp (disch := omega) only [↓sxA, ↓wk_store, sxB, sxP, simprocAttr]
    exact h _
   ·rcases hO7.err hT2 with rfl | rfl | rfl
    ·exact (he3 rfl).elim
    all_goals
     simp (disch := omega) only [↓sxA, ↓wk_store, sxB, sxP, simprocAttr]
     refine kBelowU 1 (by rfl) ?_
     refine kAwake _ (FH.max (by omega) hm) ?_
     simp (disch := omega) only [↓sxA, ↓wk_store, sxB, sxP, simprocAttr]
     exact h _
  ·simp (disch := omega) only [↓sxA, ↓wk_store, sxB, sxP, simprocAttr]
   refine kBelowU 1 (by rfl) ?_
   refine kAwake _ (FG.max (by omega) hm) ?_
   simp (disch := omega) only [↓sxA, ↓wk_store, sxB, sxP, simprocAttr]
   exact h _
 ·have FF := F1
  simp (disch := omega) only [↓sxA, ↓wk_store, sxB, sxP, simprocAttr]
  refine kBelowU 1 (by rfl) ?_
  refine kFit _ t line (by omega) (Nat.lt_of_lt_of_le h0 FF.nx) (FF.max (by omega) hm) (FF.err h0 he) fun z e2 s6 hO6 F6 => ?_
  have FG := FF.trans F6
  by_cases hz : e2 = 0
  ·subst hz
   obtain ⟨hls, l2, c2, hT2, hlen2, hag2, hsm2⟩ := fit_ok hO6
   obtain ⟨hcl2, hvl2⟩ := smallN_vl hsm2
   simp (disch := omega) only [↓sxA, ↓wk_store, sxB, sxP, simprocAttr]
   refine kBelowU 1 (by rfl) ?_
   refine kFormat _ t (by omega) hag2 hsm2 (Nat.lt_of_lt_of_le h0 FG.nx) (FG.max (by omega) hm) (FG.err h0 he) fun v3 e3 s7 hO7 F7 => ?_
   have FH := FG.trans F7
   by_cases he3 : e3 = 0
   ·subst he3
    obtain ⟨l3, ws3, hT3, hlen3, hf3, hv3, hv31⟩ := hO7.ok
    simp (disch := omega) only [↓sxA, ↓wk_store, sxB, sxP, simprocAttr]
    refine kBelowU 1 (by rfl) ?_
    refine kFit _ t v3 (by omega) (Nat.lt_of_lt_of_le h0 FH.nx) (FH.max (by omega) hm) (FH.err h0 he) fun w g3 s8 hO8 F8 => ?_
    obtain ⟨rfl, hw⟩ := fit_back (n := 0) hO8 hv31 hT3 hlen3 hf3 (by rw [hv3]; rfl)
    simp (disch := omega) only [↓sxA, ↓wk_store, sxB, sxP, simprocAttr]
    refine kBelowU 1 (by rfl) ?_
    refine kEqArgs _ hw ((hag2.keep F7).keep F8) hcl2 hvl2 ?_
    simp (disch := omega) only [↓sxA, ↓wk_store, sxB, sxP, simprocAttr]
    refine kBelowU 1 (by rfl) ?_
    refine kAwake _ ((FH.trans F8).max (by omega) hm) ?_
    simp (disch := omega) only [↓sxA, ↓wk_store, sxB, sxP, simprocAttr]
    exact h _
   ·rcases hO7.err hT2 with rfl | rfl | rfl
    ·exact (he3 rfl).elim
    all_goals
     simp (disch := omega) only [↓sxA, ↓wk_store, sxB, sxP, simprocAttr]
     refine kBelowU 1 (by rfl) ?_
     refine kAwake _ (FH.max (by omega) hm) ?_
     simp (disch := omega) only [↓sxA, ↓wk_store, sxB, sxP, simprocAttr]
     exact h _
  ·simp (disch := omega) only [↓sxA, ↓wk_store, sxB, sxP, simprocAttr]
   refine kBelowU 1 (by rfl) ?_
   refine kAwake _ (FG.max (by omega) hm) ?_
   simp (disch := omega) only [↓sxA, ↓wk_store, sxB, sxP, simprocAttr]
   exact h _
end
end Go.Proofs.YtdmemibnphcedaaGreatDoor
