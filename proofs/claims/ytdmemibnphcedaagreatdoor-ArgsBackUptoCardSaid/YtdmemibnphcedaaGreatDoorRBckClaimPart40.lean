/-
  A line that was written fits its template, and gives the list, in plain words: words and names. (No program in sight.)
  A line that was written fits its template, and gives the list, in plain words: item by item. (No program in sight.)
  A line that was written fits its template, and gives the list, in plain words. (No program in sight.)
-/
import Derived.Test.YtdmemibnphcedaaGreatDoorRBckClaimPart39
section
set_option linter.unusedSimpArgs false
set_option linter.unusedVariables false
set_option maxRecDepth 10000
namespace Go.Proofs.YtdmemibnphcedaaGreatDoor
open Go.Am

/-! ### words that are still to come -/
def J (ws : List (List UInt8)) : List UInt8 := Lib.join ws [32]
def At (L : List UInt8) (p : Nat) (ws : List (List UInt8)) : Prop := p ≤ L.length ∧ ∃ n, L.drop p = List.replicate n 32 ++ J ws
theorem J_cons (w : List UInt8) (ws : List (List UInt8)) : ∃ r, J (w :: ws) = w ++ r ∧ behind r ∧ ∃ n, r = List.replicate n 32 ++ J ws := by
 cases ws with
 | nil => exact ⟨[], by simp [J, Lib.join_one], .inl rfl, 0, by simp [J, Lib.join_nil]⟩
 | cons x xs =>
  refine ⟨32 :: J (x :: xs), ?_, .inr ⟨32, _, rfl, .inl rfl⟩, 1, rfl⟩
  unfold J
  rw [Lib.join_cons, Lib.join_cons]
  simp [Lib.joinTail]
theorem At.fin {L : List UInt8} {p : Nat} (h : At L p []) : nxt L p = .fin := by
 obtain ⟨hp, n, h⟩ := h
 rw [nxt_fin hp]
 have h' : L.drop p = List.replicate n 32 := by simpa [J, Lib.join_nil] using h
 have hl := congrArg List.length h'
 rw [List.length_drop, List.length_replicate] at hl
 unfold blk
 rw [h']
 have := skip_rep [] (fun c hc => by cases hc) n
 rw [List.append_nil] at this
 rw [this]
 omega
/-- a word, as Quote writes it -/
theorem At.quote {L : List UInt8} {p : Nat} {w : List UInt8} {ws : List (List UInt8)} (hw : w.all okB = true) (h : At L p (quoteL w :: ws)) : ∃ fr to, nxt L p = .wd w (isQ w) fr to ∧ At L to ws ∧ L[blk L p]? ≠ some 61 := by
 obtain ⟨hp, n, h⟩ := h
 obtain ⟨r, h1, h2, m, h3⟩ := J_cons (quoteL w) ws
 rw [h1] at h
 have hn := nxt_quote w hw h2 h
 have hto := (nxt_wd hp hn).2.2.2.1
 refine ⟨_, _, hn, ⟨hto, m, ?_⟩, ?_⟩
 ·rw [← h3]
  exact drop_drop' (drop_drop' h (by simp)) rfl
 ·have hfr := (nxt_wd hp hn).1
  rw [← hfr, at_drop (drop_drop' h (by simp) : L.drop (p + n) = quoteL w ++ r)]
  rw [quoteL_ok hw]
  split
  ·simp
  ·rename_i hq
   have hq' : isQ w = false := by simpa using hq
   have : w ≠ [] ∧ w.any spc = false := by unfold isQ at hq'; simpa using hq'
   obtain ⟨c, w', rfl⟩ := List.exists_cons_of_ne_nil this.1
   have h5 := this.2
   rw [List.any_cons, Bool.or_eq_false_iff] at h5
   intro hh
   simp at hh
   rw [hh] at h5
   exact absurd h5.1 (by decide)
/-- a word in quotes -/
theorem At.esc {L : List UInt8} {p : Nat} {w : List UInt8} {ws : List (List UInt8)} (hw : w.all okB = true) (h : At L p ((34 :: (escL w ++ [34])) :: ws)) : ∃ fr to, nxt L p = .wd w true fr to ∧ At L to ws := by
 obtain ⟨hp, n, h⟩ := h
 obtain ⟨r, h1, h2, m, h3⟩ := J_cons (34 :: (escL w ++ [34])) ws
 rw [h1] at h
 have hn := nxt_quoted w hw h2 h
 have hto := (nxt_wd hp hn).2.2.2.1
 refine ⟨_, _, hn, ⟨hto, m, ?_⟩⟩
 rw [← h3]
 exact drop_drop' (drop_drop' h (by simp)) rfl
/-- the rest of the line -/
theorem At.rest {L : List UInt8} {p : Nat} {w : List UInt8} (hw : restV w = true) (h : At L p [w]) : L.drop (blk L p) = w ∧ L[blk L p]? ≠ some 61 ∧ ((∃ fr, nxt L p = .bad fr ∧ fr = blk L p) ∨ ∃ s q fr to, nxt L p = .wd s q fr to ∧ fr = blk L p) := by
 obtain ⟨hp, n, h⟩ := h
 have h' : L.drop p = List.replicate n 32 ++ w := by simpa [J, Lib.join_one] using h
 unfold restV at hw
 simp only [Bool.and_eq_true, decide_eq_true_eq] at hw
 obtain ⟨⟨⟨⟨w1, w2⟩, w3⟩, w4⟩, w5⟩ := hw
 have hb : blk L p = p + n := by
  unfold blk
  rw [h', skip_rep w (fun c hc e => w4 (by rw [hc, e]))]
 have hd : L.drop (blk L p) = w := by rw [hb]; exact drop_drop' h' (by simp)
 refine ⟨hd, by rw [at_drop hd]; exact w5, ?_⟩
 cases hn : nxt L p with
 | fin =>
  exfalso
  have := (nxt_fin hp).1 hn
  rw [this, List.drop_length] at hd
  exact w1 hd.symm
 | bad fr => exact .inl ⟨fr, rfl, (nxt_bad hp hn).1⟩
 | wd s q fr to => exact .inr ⟨s, q, fr, to, rfl, (nxt_wd hp hn).1⟩
theorem eqA_no {L : List UInt8} {p : Nat} (h : L[blk L p]? ≠ some 61) : eqA L p = p := by unfold eqA; rw [if_neg h]

/-! ### names -/
theorem nm_plain {s : ByteArray} (h : isNm s = true) : s.data.toList.all okB = true ∧ isQ s.data.toList = false ∧ quoteL s.data.toList = s.data.toList ∧ lowerV s = s ∧ s.data.toList ≠ [61] := by
 have h0 := nm_ne h
 have hc : ∀ c ∈ s.data.toList, 97 ≤ c.toNat ∧ c.toNat ≤ 122 := fun c hc => by
  unfold isNm at h
  simp only [Bool.and_eq_true, List.all_eq_true, decide_eq_true_eq] at h
  exact h.2 c hc
 have hok : s.data.toList.all okB = true := by
  rw [List.all_eq_true]
  intro c hh
  have := hc c hh
  exact (okB_it c).2 (by omega)
 have hsp : s.data.toList.any spc = false := by
  rw [List.any_eq_false]
  intro c hh
  have := hc c hh
  rw [spc_no (by omega)]
  decide
 have hq : isQ s.data.toList = false := by unfold isQ; rw [hsp]; simp [h0]
 refine ⟨hok, hq, by rw [quoteL_ok hok, if_neg (by rw [hq]; decide)], ?_, fun e => ?_⟩
 ·have : (lowerV s) = bs (s.data.toList.map Lib.lowerB) := rfl
  rw [this]
  have e : s.data.toList.map Lib.lowerB = s.data.toList := by
   conv => rhs; rw [← List.map_id s.data.toList]
   exact List.map_congr_left fun c hh => (lower_byte c).2 (by have := hc c hh; omega)
  rw [e, bs_of]
 ·have := hc 61 (by rw [e]; simp)
  revert this
  decide
/-- an item is found by its own name -/
theorem known_own {l : List IM} (hnd : (namesOf l).Nodup) : ∀ (k i : Nat) (hk : k < l.length) (s : ByteArray), s ∈ l[k].names → knownL s l i = ((i + k : Nat) : Int) := by
 induction l with
 | nil => intro k i hk; simp at hk
 | cons x r ih =>
  intro k i hk s hs
  have hnd' : (x.names ++ namesOf r).Nodup := hnd
  rw [List.nodup_append] at hnd'
  obtain ⟨n1, n2, n3⟩ := hnd'
  simp only [knownL]
  cases k with
  | zero => rw [if_pos (by simpa using hs)]; simp
  | succ k =>
   have hkr : k < r.length := by simpa using hk
   have hs' : s ∈ (r[k]'hkr).names := by simpa using hs
   have hmem : s ∈ namesOf r := List.mem_flatMap.2 ⟨_, List.getElem_mem hkr, hs'⟩
   rw [if_neg (fun hh => n3 s hh s hmem rfl), ih n2 k (i + 1) hkr s hs']
   congr 1
   omega
end Go.Proofs.YtdmemibnphcedaaGreatDoor
end
section
set_option linter.unusedSimpArgs false
set_option linter.unusedVariables false
set_option maxRecDepth 10000
namespace Go.Proofs.YtdmemibnphcedaaGreatDoor
open Go.Am

def Run (L : List UInt8) (l : List IM) (p : Nat) (c1 : List Cl) (p' : Nat) (c2 : List Cl) : Prop := ∀ r, Fits L l p' c2 r → Fits L l p c1 r
theorem Run.refl {L : List UInt8} {l : List IM} (p : Nat) (c : List Cl) : Run L l p c p c := fun _ h => h
theorem Run.trans {L : List UInt8} {l : List IM} {p q r : Nat} {a b c : List Cl} (h : Run L l p a q b) (k : Run L l q b r c) : Run L l p a r c := fun x hx => h x (k x hx)
theorem Run.one {L : List UInt8} {l : List IM} {p p' : Nat} {a b : List Cl} (h : stepA L l p a = .go p' b) : Run L l p a p' b := fun _ hx => .go h hx

theorem isQ_eq {w : List UInt8} (h : isQ w = false) : w ≠ [61] := by
 intro e
 subst e
 revert h
 decide

section
variable {L : List UInt8} {l : List IM} {p k : Nat} {cs' : List Cl} {nm : ByteArray} {ws : List (List UInt8)}
/-- a name -/
theorem name_step (hnd : (namesOf l).Nodup) (hg : ∀ x ∈ l, ItGood x) (hk : k < l.length) (hnm : nm ∈ (itAt l k).names) (h : At L p (nm.data.toList :: ws)) : ∃ to, At L to ws ∧ stepA L l p cs' = namA L l k to cs' := by
 rw [itAt_eq hk] at hnm
 have hgk := hg _ (List.getElem_mem hk)
 have hn : isNm nm = true := by
  have := hgk.2.1
  rw [List.all_eq_true] at this
  exact this _ hnm
 obtain ⟨n1, n2, n3, n4, n5⟩ := nm_plain hn
 rw [← n3] at h
 obtain ⟨fr, to, h1, h2, h3⟩ := h.quote n1
 have hkn : kn l nm.data.toList = (k : Int) := by
  unfold kn
  rw [bs_of, n4, known_own hnd k 0 hk nm hnm]
  simp
 refine ⟨to, h2, ?_⟩
 unfold stepA
 rw [h1]
 dsimp only
 rw [n2, hkn, if_pos ⟨rfl, by omega⟩]
 rfl
theorem namA_zero (hz : clAt cs' k = Cl.zero) : ¬((clAt cs' k).nm = true ∨ ((clAt cs' k).set = true ∧ (mkAt l k).m = false)) := by
 rw [hz]
 simp [Cl.zero]
/-- a switch -/
theorem name_sw (hnd : (namesOf l).Nodup) (hg : ∀ x ∈ l, ItGood x) (hk : k < l.length) (hnm : nm ∈ (itAt l k).names) (hs : (itAt l k).mks.s = true) (hz : clAt cs' k = Cl.zero) (h : At L p (nm.data.toList :: ws)) : ∃ p', At L p' ws ∧ Run L l p cs' p' (upd' cs' k Cl.on) := by
 obtain ⟨to, h1, h2⟩ := name_step (cs' := cs') hnd hg hk hnm h
 refine ⟨to, h1, .one ?_⟩
 rw [h2]
 unfold namA
 rw [if_neg (namA_zero hz), if_pos (show (mkAt l k).s = true from hs)]
/-- a name and a value -/
theorem name_val (hnd : (namesOf l).Nodup) (hg : ∀ x ∈ l, ItGood x) (hk : k < l.length) (hnm : nm ∈ (itAt l k).names) (hs : (itAt l k).mks.s = false) (hf : (itAt l k).mks.f = false) (hz : clAt cs' k = Cl.zero) {w : List UInt8} (hw : w.all okB = true) (h : At L p (nm.data.toList :: quoteL w :: ws)) : ∃ p', At L p' ws ∧ Run L l p cs' p' (upd' (upd' cs' k Cl.on) k (Cl.push (bs w))) := by
 obtain ⟨to, h1, h2⟩ := name_step (cs' := cs') hnd hg hk hnm h
 obtain ⟨fr, to2, h3, h4, h5⟩ := h1.quote hw
 refine ⟨to2, h4, .one ?_⟩
 rw [h2]
 unfold namA
 rw [if_neg (namA_zero hz), if_neg (show ¬ (mkAt l k).s = true from by show ¬ (itAt l k).mks.s = true; rw [hs]; decide), eqA_no h5, h3]
 dsimp only
 rw [if_neg (show ¬ (mkAt l k).f = true from by show ¬ (itAt l k).mks.f = true; rw [hf]; decide), if_neg (fun hh => isQ_eq hh.1 hh.2)]
/-- a name and the rest -/
theorem name_rest (hnd : (namesOf l).Nodup) (hg : ∀ x ∈ l, ItGood x) (hk : k < l.length) (hnm : nm ∈ (itAt l k).names) (hs : (itAt l k).mks.s = false) (hf : (itAt l k).mks.f = true) (hz : clAt cs' k = Cl.zero) {w : List UInt8} (hw : restV w = true) (h : At L p [nm.data.toList, w]) : Fits L l p cs' (some (upd' (upd' cs' k Cl.on) k (Cl.one (bs w)))) := by
 obtain ⟨to, h1, h2⟩ := name_step (cs' := cs') hnd hg hk hnm h
 obtain ⟨r1, r2, r3⟩ := h1.rest hw
 have hrest : ∀ c, restA L (blk L to) k c = .done (some (upd' c k (Cl.one (bs w)))) := fun c => by
  unfold restV at hw
  simp only [Bool.and_eq_true, decide_eq_true_eq] at hw
  obtain ⟨⟨⟨⟨w1, w2⟩, w3⟩, w4⟩, w5⟩ := hw
  unfold restA
  rw [r1, w3, if_pos ⟨w2, w1⟩]
 refine .done ?_
 rw [h2]
 unfold namA
 rw [if_neg (namA_zero hz), if_neg (show ¬ (mkAt l k).s = true from by show ¬ (itAt l k).mks.s = true; rw [hs]; decide), eqA_no r2]
 rcases r3 with ⟨fr, h3, rfl⟩ | ⟨s, q, fr, to', h3, rfl⟩
 ·rw [h3]
  dsimp only
  rw [if_pos (show (mkAt l k).f = true from hf), hrest]
 ·rw [h3]
  dsimp only
  rw [if_pos (show (mkAt l k).f = true from hf), hrest]
/-- a value without a name -/
theorem val_step (ho : openL l cs' 0 (-1) = (k : Int)) (hf : (itAt l k).mks.f = false) {v : ByteArray} (hv : okT v = true) (h : At L p ((sevT l v).data.toList :: ws)) : ∃ p', At L p' ws ∧ Run L l p cs' p' (upd' cs' k (Cl.push v)) := by
 have fin : ∀ q fr to, nxt L p = .wd v.data.toList q fr to → ¬(q = false ∧ 0 ≤ kn l v.data.toList) → (q = false → v.data.toList ≠ [61]) → stepA L l p cs' = .go to (upd' cs' k (Cl.push v)) := fun q fr to h1 h2 h3 => by
  unfold stepA
  rw [h1]
  dsimp only
  rw [if_neg h2]
  unfold valA
  rw [ho, if_neg (by omega)]
  have e : ((k : Int)).toNat = k := by simp
  rw [e, if_neg (show ¬ (mkAt l k).f = true from by show ¬ (itAt l k).mks.f = true; rw [hf]; decide)]
  dsimp only
  rw [if_neg (fun hh => h3 hh.1 hh.2), bs_of]
 unfold sevT at h
 by_cases hkn : 0 ≤ knownL (lowerV v) l 0
 ·rw [if_pos hkn, bs_list] at h
  obtain ⟨fr, to, h1, h2⟩ := h.esc hv
  exact ⟨to, h2, .one (fin true fr to h1 (fun hh => by cases hh.1) (fun hh => by cases hh))⟩
 ·rw [if_neg hkn, bs_list] at h
  obtain ⟨fr, to, h1, h2, h3⟩ := h.quote hv
  refine ⟨to, h2, .one (fin _ fr to h1 (fun hh => hkn ?_) isQ_eq)⟩
  have := hh.2
  unfold kn at this
  rwa [bs_of] at this
end

/-! ### items by name -/
def doneA (l : List IM) (cs : List Cl) (i j : Nat) : Bool := decide (i < j) && (clAt cs i).set && !(itAt l i).mks.m && !(itAt l i).mks.f
def InvA (l : List IM) (cs : List Cl) (j : Nat) (c : List Cl) : Prop := c.length = l.length ∧ ∀ i, clAt c i = if doneA l cs i j = true then ⟨(clAt cs i).vals, true, true⟩ else Cl.zero
theorem doneA_same {l : List IM} {cs : List Cl} {i j : Nat} (h : i ≠ j) : doneA l cs i (j + 1) = doneA l cs i j := by
 unfold doneA
 have : decide (i < j + 1) = decide (i < j) := by rw [decide_eq_decide]; omega
 rw [this]
theorem doneA_here {l : List IM} {cs : List Cl} {j : Nat} : doneA l cs j (j + 1) = ((clAt cs j).set && !(itAt l j).mks.m && !(itAt l j).mks.f) := by simp [doneA]
theorem doneA_at {l : List IM} {cs : List Cl} {j : Nat} : doneA l cs j j = false := by simp [doneA]
theorem InvA.at {l : List IM} {cs c : List Cl} {j : Nat} (h : InvA l cs j c) : clAt c j = Cl.zero := by rw [h.2, doneA_at]; rfl
theorem InvA.skip {l : List IM} {cs c : List Cl} {j : Nat} (h : InvA l cs j c) (hd : doneA l cs j (j + 1) = false) : InvA l cs (j + 1) c := by
 refine ⟨h.1, fun i => ?_⟩
 by_cases e : i = j
 ·rw [e, hd, h.at]; rfl
 ·rw [doneA_same e]; exact h.2 i
theorem InvA.take {l : List IM} {cs c c2 : List Cl} {j : Nat} (h : InvA l cs j c) (hl : c2.length = c.length) (hd : doneA l cs j (j + 1) = true) (h1 : clAt c2 j = ⟨(clAt cs j).vals, true, true⟩) (h2 : ∀ i, i ≠ j → clAt c2 i = clAt c i) : InvA l cs (j + 1) c2 := by
 refine ⟨hl.trans h.1, fun i => ?_⟩
 by_cases e : i = j
 ·rw [e, hd, h1]; rfl
 ·rw [doneA_same e, h2 i e]; exact h.2 i
theorem InvA.zero (l : List IM) (cs : List Cl) : InvA l cs 0 (cls0 l) := by
 refine ⟨by simp [cls0], fun i => ?_⟩
 have : doneA l cs i 0 = false := by simp [doneA]
 rw [this]
 show clAt (cls0 l) i = Cl.zero
 unfold clAt cls0
 rw [List.getD_eq_getElem?_getD, List.getElem?_map]
 cases l[i]? <;> rfl

theorem nm0_mem {x : IM} (h : ItGood x) : nm0 x ∈ x.names := by
 obtain ⟨h1, _⟩ := h
 unfold nm0
 cases hx : x.names with
 | nil => exact (h1 hx).elim
 | cons a r => simp
theorem along_parts {x : IM} {nm : ByteArray} {c : Cl} (h : alongA x nm c = true) (hg : ItGood x) : nm ∈ x.names ∧ (x.mks.a = true → c.set = true) ∧ (∀ v ∈ c.vals, valOk x.mks v = true) ∧ (x.mks.s = true → c.vals = []) ∧ (x.mks.s = false → (c.set = false ↔ c.vals = []) ∧ (x.mks.m = false → c.vals.length ≤ 1) ∧ (x.mks.f = true → c.set = true → restV (c.vals.headD .empty).data.toList = true)) := by
 unfold alongA at h
 simp only [Bool.and_eq_true, decide_eq_true_eq, List.all_eq_true] at h
 obtain ⟨⟨⟨h1, h2⟩, h3⟩, h4⟩ := h
 refine ⟨by rw [h1]; exact nm0_mem hg, fun ha => by simpa [ha] using h2, h3, fun hs => ?_, fun hs => ?_⟩
 ·rw [if_pos hs] at h4
  simpa using h4
 ·rw [if_neg (by rw [hs]; decide)] at h4
  simp only [Bool.and_eq_true, Bool.or_eq_true, decide_eq_true_eq, beq_iff_eq] at h4
  obtain ⟨⟨h5, h6⟩, h7⟩ := h4
  refine ⟨?_, fun hm => by simpa [hm] using h6, fun hf hset => by simpa [hf, hset] using h7⟩
  rw [h5]
  cases c.vals <;> simp
theorem fit_parts {x : IM} (hg : ItGood x) : (x.mks.s = true → x.mks.m = false ∧ x.mks.f = false ∧ x.mks.n = false) ∧ (x.mks.m = true → x.mks.k = false ∧ x.mks.s = false ∧ x.mks.f = false) ∧ (x.mks.f = true → x.mks.s = false ∧ x.mks.m = false ∧ x.mks.k = false) := by
 have := hg.2.2
 unfold Mk.fit at this
 revert this
 cases x.mks.s <;> cases x.mks.m <;> cases x.mks.f <;> cases x.mks.k <;> cases x.mks.a <;> cases x.mks.n <;> decide

/-- what goes into the line by name, item by item -/
theorem phaseA {L : List UInt8} {l : List IM} {ns : List ByteArray} {cs : List Cl} (hnd : (namesOf l).Nodup) (hg : ∀ x ∈ l, ItGood x) (hal : allAlong l ns cs) : ∀ (j : Nat), j ≤ l.length → ∀ ws, At L 0 ((accL l ns cs j).out.map (·.data.toList) ++ ws) → ∃ p c, Run L l 0 (cls0 l) p c ∧ At L p ws ∧ InvA l cs j c
 | 0, _, ws, h => ⟨0, cls0 l, .refl _ _, h, .zero l cs⟩
 | j + 1, hj, ws, h => by
  have hlt : j < l.length := by omega
  have al := hal j hlt
  have gd : ItGood (itAt l j) := by rw [itAt_eq hlt]; exact hg _ (List.getElem_mem hlt)
  obtain ⟨a1, a2, a3, a4, a5⟩ := along_parts al gd
  obtain ⟨f1, f2, f3⟩ := fit_parts gd
  have e : accL l ns cs (j + 1) = accS (itAt l j).mks (ns.getD j .empty) (clAt cs j) (accL l ns cs j) := rfl
  rw [e] at h
  unfold accS at h
  by_cases hset : (clAt cs j).set = false
  ·rw [if_pos hset] at h
   obtain ⟨p, c, r1, r2, r3⟩ := phaseA hnd hg hal j (by omega) ws h
   exact ⟨p, c, r1, r2, r3.skip (by rw [doneA_here, hset]; rfl)⟩
  rw [if_neg hset] at h
  have hset' : (clAt cs j).set = true := by simpa using hset
  by_cases hs : (itAt l j).mks.s = true
  ·rw [if_pos hs] at h
   simp only [List.map_append, List.map_cons, List.map_nil, List.append_assoc, List.cons_append, List.nil_append] at h
   obtain ⟨p, c, r1, r2, r3⟩ := phaseA hnd hg hal j (by omega) _ h
   obtain ⟨p', q1, q2⟩ := name_sw (cs' := c) hnd hg hlt a1 hs r3.at r2
   have hc : j < c.length := by rw [r3.1]; exact hlt
   refine ⟨p', _, r1.trans q2, q1, r3.take (upd_len _ _ _) (by rw [doneA_here, hset', (f1 hs).1, (f1 hs).2.1]; rfl) ?_ fun i hi => upd_ne _ _ _ _ (Ne.symm hi)⟩
   rw [upd_same _ _ _ hc, r3.at, a4 hs]
   rfl
  rw [if_neg hs] at h
  have hs' : (itAt l j).mks.s = false := by simpa using hs
  by_cases hm : (itAt l j).mks.m = true
  ·rw [if_pos hm] at h
   obtain ⟨p, c, r1, r2, r3⟩ := phaseA hnd hg hal j (by omega) ws h
   exact ⟨p, c, r1, r2, r3.skip (by rw [doneA_here, hm]; simp)⟩
  rw [if_neg hm] at h
  have hm' : (itAt l j).mks.m = false := by simpa using hm
  by_cases hf : (itAt l j).mks.f = true
  ·rw [if_pos hf] at h
   obtain ⟨p, c, r1, r2, r3⟩ := phaseA hnd hg hal j (by omega) ws h
   exact ⟨p, c, r1, r2, r3.skip (by rw [doneA_here, hf]; simp)⟩
  rw [if_neg hf] at h
  have hf' : (itAt l j).mks.f = false := by simpa using hf
  simp only [List.map_append, List.map_cons, List.map_nil, List.append_assoc, List.cons_append, List.nil_append, bs_list] at h
  obtain ⟨p, c, r1, r2, r3⟩ := phaseA hnd hg hal j (by omega) _ h
  obtain ⟨b1, b2, b3⟩ := a5 hs'
  have hv : (clAt cs j).vals = [fst (clAt cs j)] := by
   have := b2 hm'
   unfold fst
   cases hvv : (clAt cs j).vals with
   | nil => rw [b1.2 hvv] at hset'; cases hset'
   | cons x r =>
    rw [hvv] at this
    have : r = [] := List.length_eq_zero_iff.1 (by simpa using this)
    rw [this]
    rfl
  have hok : (fst (clAt cs j)).data.toList.all okB = true := by
   have := a3 (fst (clAt cs j)) (by rw [hv]; simp)
   unfold valOk okT at this
   exact (Bool.and_eq_true .. ▸ this).1
  obtain ⟨p', q1, q2⟩ := name_val (cs' := c) hnd hg hlt a1 hs' hf' r3.at hok r2
  have hc : j < c.length := by rw [r3.1]; exact hlt
  refine ⟨p', _, r1.trans q2, q1, r3.take (by rw [upd_len, upd_len]) (by rw [doneA_here, hset', hm', hf']; rfl) ?_ fun i hi => by rw [upd_ne _ _ _ _ (Ne.symm hi), upd_ne _ _ _ _ (Ne.symm hi)]⟩
  rw [upd_same _ _ _ (by rw [upd_len]; exact hc), upd_same _ _ _ hc, r3.at, bs_of, hv]
  rfl
end Go.Proofs.YtdmemibnphcedaaGreatDoor
end
section
set_option linter.unusedSimpArgs false
set_option linter.unusedVariables false
set_option maxRecDepth 10000
namespace Go.Proofs.YtdmemibnphcedaaGreatDoor
open Go.Am

section
variable {l : List IM} {ns : List ByteArray} {cs : List Cl}
def WholeI (l : List IM) (cs : List Cl) (i : Nat) : Bool := ((itAt l i).mks.s || (itAt l i).mks.k) || (itAt l i).mks.m || (!(itAt l i).mks.f && (clAt cs i).set)
theorem acc_whole : ∀ (j : Nat), (accL l ns cs j).whole = true → ∀ i, i < j → WholeI l cs i = true
 | 0, _, i, hi => by omega
 | j + 1, h, i, hi => by
  have e : (accL l ns cs (j + 1)).whole = wholeA (itAt l j).mks (clAt cs j) (accL l ns cs j).whole := by
   show (accS _ _ _ _).whole = _
   unfold accS
   repeat' split
   all_goals rfl
  rw [e] at h
  unfold wholeA at h
  rw [Bool.and_eq_true] at h
  by_cases q : i = j
  ·rw [q]; exact h.2
  ·exact acc_whole j h.1 i (by omega)
theorem acc_sev (hg : ∀ i, i < l.length → ItGood (itAt l i)) : ∀ (j : Nat), j ≤ l.length → (((accL l ns cs j).several = [] ∧ ∀ i, i < j → (itAt l i).mks.m = true → (clAt cs i).set = false) ∨ ∃ k, k < j ∧ (itAt l k).mks.m = true ∧ (clAt cs k).set = true ∧ (accL l ns cs j).several = (clAt cs k).vals ∧ (accL l ns cs j).name = ns.getD k .empty)
 | 0, _ => .inl ⟨rfl, fun i hi => by omega⟩
 | j + 1, hj => by
  have gd := hg j (by omega)
  obtain ⟨f1, f2, f3⟩ := fit_parts gd
  have e : accL l ns cs (j + 1) = accS (itAt l j).mks (ns.getD j .empty) (clAt cs j) (accL l ns cs j) := rfl
  rw [e]
  by_cases hh : (itAt l j).mks.m = true ∧ (clAt cs j).set = true
  ·refine .inr ⟨j, by omega, hh.1, hh.2, ?_, ?_⟩
   ·unfold accS; rw [if_neg (by rw [hh.2]; decide), if_neg (by rw [(f2 hh.1).2.1]; decide), if_pos hh.1]
   ·unfold accS; rw [if_neg (by rw [hh.2]; decide), if_neg (by rw [(f2 hh.1).2.1]; decide), if_pos hh.1]
  ·have e1 : (accS (itAt l j).mks (ns.getD j .empty) (clAt cs j) (accL l ns cs j)).several = (accL l ns cs j).several ∧ (accS (itAt l j).mks (ns.getD j .empty) (clAt cs j) (accL l ns cs j)).name = (accL l ns cs j).name := by
    unfold accS
    repeat' split
    ·exact ⟨rfl, rfl⟩
    ·exact ⟨rfl, rfl⟩
    ·rename_i q1 q2 q3
     exact (hh ⟨q3, by simpa using q1⟩).elim
    ·exact ⟨rfl, rfl⟩
    ·exact ⟨rfl, rfl⟩
   rw [e1.1, e1.2]
   rcases acc_sev hg j (by omega) with ⟨h1, h2⟩ | ⟨k, k1, k2⟩
   ·refine .inl ⟨h1, fun i hi hm => ?_⟩
    by_cases q : i = j
    ·rw [q] at hm ⊢
     cases hs : (clAt cs j).set with
     | false => rfl
     | true => exact (hh ⟨hm, hs⟩).elim
    ·exact h2 i (by omega) hm
   ·exact .inr ⟨k, by omega, k2⟩
theorem acc_last (hg : ∀ i, i < l.length → ItGood (itAt l i)) : ∀ (j : Nat), j ≤ l.length → (((accL l ns cs j).last = [] ∧ ∀ i, i < j → (itAt l i).mks.f = true → (clAt cs i).set = false) ∨ ∃ k, k < j ∧ (itAt l k).mks.f = true ∧ (clAt cs k).set = true ∧ (accL l ns cs j).last = [ns.getD k .empty, fst (clAt cs k)])
 | 0, _ => .inl ⟨rfl, fun i hi => by omega⟩
 | j + 1, hj => by
  have gd := hg j (by omega)
  obtain ⟨f1, f2, f3⟩ := fit_parts gd
  have e : accL l ns cs (j + 1) = accS (itAt l j).mks (ns.getD j .empty) (clAt cs j) (accL l ns cs j) := rfl
  rw [e]
  by_cases hh : (itAt l j).mks.f = true ∧ (clAt cs j).set = true
  ·refine .inr ⟨j, by omega, hh.1, hh.2, ?_⟩
   unfold accS; rw [if_neg (by rw [hh.2]; decide), if_neg (by rw [(f3 hh.1).1]; decide), if_neg (by rw [(f3 hh.1).2.1]; decide), if_pos hh.1]
  ·have e1 : (accS (itAt l j).mks (ns.getD j .empty) (clAt cs j) (accL l ns cs j)).last = (accL l ns cs j).last := by
    unfold accS
    repeat' split
    ·rfl
    ·rfl
    ·rfl
    ·rename_i q1 q2 q3 q4
     exact (hh ⟨q4, by simpa using q1⟩).elim
    ·rfl
   rw [e1]
   rcases acc_last hg j (by omega) with ⟨h1, h2⟩ | ⟨k, k1, k2⟩
   ·refine .inl ⟨h1, fun i hi hm => ?_⟩
    by_cases q : i = j
    ·rw [q] at hm ⊢
     cases hs : (clAt cs j).set with
     | false => rfl
     | true => exact (hh ⟨hm, hs⟩).elim
    ·exact h2 i (by omega) hm
   ·exact .inr ⟨k, by omega, k2⟩
end

/-! ### the open item -/
def NotOpen (x : IM) (c : Cl) : Prop := (x.mks.s || x.mks.k) = true ∨ (x.mks.m = false ∧ c.set = true)
theorem openL_skip : ∀ (l : List IM) (c : List Cl) (i : Nat) (m : Int), l.length = c.length → (∀ j, j < l.length → NotOpen (itAt l j) (clAt c j)) → openL l c i m = m
 | [], [], _, _, _, _ => rfl
 | [], _ :: _, _, _, h, _ => by simp at h
 | _ :: _, [], _, _, h, _ => by simp at h
 | x :: l, y :: c, i, m, h, hn => by
  have h0 : NotOpen x y := by simpa [itAt, clAt] using hn 0 (by simp)
  have ih := fun m => openL_skip l c (i + 1) m (by simpa using h) fun j hj => by simpa [itAt, clAt] using hn (j + 1) (by simp; omega)
  simp only [openL]
  rcases h0 with q | ⟨q1, q2⟩
  ·rw [if_pos q]; exact ih m
  ·by_cases q : (x.mks.s || x.mks.k) = true
   ·rw [if_pos q]; exact ih m
   ·rw [if_neg q, if_neg (by rw [q1]; decide), if_pos q2]; exact ih m
theorem openL_many : ∀ (l : List IM) (c : List Cl) (i : Nat) (m : Int) (k : Nat), l.length = c.length → k < l.length → (∀ j, j < l.length → j ≠ k → NotOpen (itAt l j) (clAt c j)) → ((itAt l k).mks.s || (itAt l k).mks.k) = false → (itAt l k).mks.m = true → openL l c i m = ((i + k : Nat) : Int)
 | [], _, _, _, k, _, hk, _, _, _ => by simp at hk
 | _ :: _, [], _, _, _, h, _, _, _, _ => by simp at h
 | x :: l, y :: c, i, m, 0, h, _, hn, h1, h2 => by
  have e1 : (x.mks.s || x.mks.k) = false := by simpa [itAt] using h1
  have e2 : x.mks.m = true := by simpa [itAt] using h2
  simp only [openL]
  rw [if_neg (by rw [e1]; decide), if_pos e2, openL_skip l c (i + 1) i (by simpa using h) fun j hj => by simpa [itAt, clAt] using hn (j + 1) (by simp; omega) (by omega)]
  simp
 | x :: l, y :: c, i, m, k + 1, h, hk, hn, h1, h2 => by
  have h0 : NotOpen x y := by simpa [itAt, clAt] using hn 0 (by simp) (by omega)
  have ih := fun m => openL_many l c (i + 1) m k (by simpa using h) (by simpa using hk) (fun j hj hjk => by simpa [itAt, clAt] using hn (j + 1) (by simp; omega) (by omega)) (by simpa [itAt] using h1) (by simpa [itAt] using h2)
  have e : ((i + (k + 1) : Nat) : Int) = ((i + 1 + k : Nat) : Int) := by congr 1; omega
  rw [e]
  simp only [openL]
  rcases h0 with q | ⟨q1, q2⟩
  ·rw [if_pos q]; exact ih m
  ·by_cases q : (x.mks.s || x.mks.k) = true
   ·rw [if_pos q]; exact ih m
   ·rw [if_neg q, if_neg (by rw [q1]; decide), if_pos q2]; exact ih m

/-- several values, without a name -/
theorem vals_run {L : List UInt8} {l : List IM} {k : Nat} {ws : List (List UInt8)} (hk : k < l.length) (hm : (itAt l k).mks.m = true) (hgk : ItGood (itAt l k)) : ∀ (vs : List ByteArray) (c : List Cl) (p : Nat), c.length = l.length → (∀ j, j < l.length → j ≠ k → NotOpen (itAt l j) (clAt c j)) → (∀ v ∈ vs, okT v = true) → At L p (vs.map (fun v => (sevT l v).data.toList) ++ ws) → ∃ p' c', Run L l p c p' c' ∧ At L p' ws ∧ c'.length = l.length ∧ (∀ j, j ≠ k → clAt c' j = clAt c j) ∧ (clAt c' k).vals = (clAt c k).vals ++ vs ∧ (clAt c' k).set = ((clAt c k).set || !vs.isEmpty)
 | [], c, p, hc, hn, hv, h => ⟨p, c, .refl _ _, h, hc, fun _ _ => rfl, by simp, by simp⟩
 | v :: vs, c, p, hc, hn, hv, h => by
  obtain ⟨f1, f2, f3⟩ := fit_parts hgk
  obtain ⟨g1, g2, g3⟩ := f2 hm
  have ho : openL l c 0 (-1) = (k : Int) := by
   rw [openL_many l c 0 (-1) k hc.symm hk hn (by rw [g1, g2]; rfl) hm]
   simp
  obtain ⟨p1, q1, q2⟩ := val_step (cs' := c) ho g3 (hv v (by simp)) h
  have hkc : k < c.length := by rw [hc]; exact hk
  have hne : ∀ j, j ≠ k → clAt (upd' c k (Cl.push v)) j = clAt c j := fun j hj => upd_ne _ _ _ _ (Ne.symm hj)
  obtain ⟨p', c', r1, r2, r3, r4, r5, r6⟩ := vals_run hk hm hgk vs (upd' c k (Cl.push v)) p1 (by rw [upd_len]; exact hc) (fun j hj hjk => by rw [hne j hjk]; exact hn j hj hjk) (fun w hw => hv w (by simp [hw])) q1
  refine ⟨p', c', q2.trans r1, r2, r3, fun j hj => by rw [r4 j hj, hne j hj], ?_, ?_⟩
  ·rw [r5, upd_same _ _ _ hkc]
   simp [Cl.push]
  ·rw [r6, upd_same _ _ _ hkc]
   simp [Cl.push]

/-- a line that was written fits, and gives the list -/
theorem back_plain {t : ByteArray} {l : List IM} (hT : TmA t l 0) {ns : List ByteArray} {cs : List Cl} {ws : List ByteArray} (hf : fmtA l ns cs = some ws) {L : List UInt8} {n : Nat} (hL : L = List.replicate n 32 ++ Lib.join (ws.map (·.data.toList)) [32]) :
  ∃ c, Fits L l 0 (cls0 l) (some c) ∧ c.length = l.length ∧ ∀ i, i < l.length → (clAt c i).vals = (clAt cs i).vals ∧ (clAt c i).set = (clAt cs i).set := by
 obtain ⟨t1, t2, t3⟩ := tm_parts hT
 have hnd : (namesOf l).Nodup := by
  cases hT with
  | nil _ => exact List.nodup_nil
  | ok _ h0 h1 h2 h3 => exact h2.2.1
 have hal : allAlong l ns cs := by
  unfold fmtA at hf
  split at hf
  ·assumption
  ·cases hf
 have hfb : fmtB l (accL l ns cs l.length) = some ws := by
  unfold fmtA at hf
  rwa [if_pos hal] at hf
 have hg : ∀ i, i < l.length → ItGood (itAt l i) := fun i hi => by rw [itAt_eq hi]; exact t3 _ (List.getElem_mem hi)
 have hone : ∀ i k, i < l.length → k < l.length → (itAt l i).mks.m = true → (itAt l k).mks.m = true → i = k := fun i k hi hk h1 h2 => by
  rcases Nat.lt_trichotomy i k with q | q | q
  ·exact (many_once t2 q hk h1 h2).elim
  ·exact q
  ·exact (many_once t2 q hi h2 h1).elim
 have hlast : ∀ i, i < l.length → (itAt l i).mks.f = true → i + 1 = l.length := fun i hi h1 => by
  by_cases q : i + 1 < l.length
  ·have := t1 i (l[i]) (List.getElem?_eq_getElem hi) q
   rw [itAt_eq hi, this] at h1
   cases h1
  ·omega
 have hset0 : ∀ i, i < l.length → (clAt cs i).set = false → (clAt cs i).vals = [] := fun i hi h1 => by
  obtain ⟨a1, a2, a3, a4, a5⟩ := along_parts (hal i hi) (hg i hi)
  cases hs : (itAt l i).mks.s with
  | true => exact a4 hs
  | false => exact (a5 hs).1.1 h1
 have hokT : ∀ i, i < l.length → ∀ v ∈ (clAt cs i).vals, okT v = true := fun i hi v hv => by
  obtain ⟨a1, a2, a3, a4, a5⟩ := along_parts (hal i hi) (hg i hi)
  have := a3 v hv
  unfold valOk at this
  exact (Bool.and_eq_true .. ▸ this).1
 -- the words
 obtain ⟨mid, hws, hmid⟩ : ∃ mid, ws = (accL l ns cs l.length).out ++ mid ++ (accL l ns cs l.length).last ∧ (((accL l ns cs l.length).whole = true ∧ mid = (accL l ns cs l.length).several.map (sevT l)) ∨ ((accL l ns cs l.length).several = [] ∧ mid = []) ∨ ∃ v, (accL l ns cs l.length).several = [v] ∧ mid = [(accL l ns cs l.length).name, bs (quoteL v.data.toList)]) := by
  unfold fmtB at hfb
  by_cases hw : (accL l ns cs l.length).whole = true
  ·rw [if_pos hw] at hfb
   exact ⟨_, (Option.some.inj hfb).symm, .inl ⟨hw, rfl⟩⟩
  ·rw [if_neg hw] at hfb
   split at hfb
   ·rename_i hs
    exact ⟨[], by rw [List.append_nil]; exact (Option.some.inj hfb).symm, .inr (.inl ⟨hs, rfl⟩)⟩
   ·rename_i v hs
    exact ⟨_, (Option.some.inj hfb).symm, .inr (.inr ⟨v, hs, rfl⟩)⟩
   ·cases hfb
 have hAt : At L 0 ((accL l ns cs l.length).out.map (·.data.toList) ++ (mid.map (·.data.toList) ++ (accL l ns cs l.length).last.map (·.data.toList))) := by
  refine ⟨Nat.zero_le _, n, ?_⟩
  rw [List.drop_zero, hL, hws]
  simp only [List.map_append, List.append_assoc]
  rfl
 obtain ⟨p, c, r1, r2, r3⟩ := phaseA hnd t3 hal l.length (Nat.le_refl _) _ hAt
 have hz : ∀ i, i < l.length → ((clAt cs i).set = false ∨ (itAt l i).mks.m = true ∨ (itAt l i).mks.f = true) → clAt c i = Cl.zero := fun i hi h => by
  rw [r3.2 i]
  have : doneA l cs i l.length = false := by
   unfold doneA
   rcases h with h | h | h <;> rw [h] <;> simp
  rw [this]
  rfl
 have hd : ∀ i, i < l.length → (clAt cs i).set = true → (itAt l i).mks.m = false → (itAt l i).mks.f = false → clAt c i = ⟨(clAt cs i).vals, true, true⟩ := fun i hi h1 h2 h3 => by
  rw [r3.2 i]
  have : doneA l cs i l.length = true := by
   unfold doneA
   rw [h1, h2, h3]
   simp [hi]
  rw [this]
  rfl
 -- the item of many
 obtain ⟨p2, c2, b1, b2, b3, b4, b5⟩ : ∃ p2 c2, Run L l p c p2 c2 ∧ At L p2 ((accL l ns cs l.length).last.map (·.data.toList)) ∧ c2.length = l.length ∧ (∀ i, i < l.length → (itAt l i).mks.m = false → clAt c2 i = clAt c i) ∧ (∀ i, i < l.length → (itAt l i).mks.m = true → (clAt c2 i).vals = (clAt cs i).vals ∧ (clAt c2 i).set = (clAt cs i).set) := by
  rcases acc_sev (ns := ns) (cs := cs) hg l.length (Nat.le_refl _) with ⟨s1, s2⟩ | ⟨k, k1, k2, k3, k4, k5⟩
  ·have hm0 : mid = [] := by
    rcases hmid with ⟨_, h⟩ | ⟨_, h⟩ | ⟨v, h, _⟩
    ·rw [h, s1]; rfl
    ·exact h
    ·rw [s1] at h; cases h
   rw [hm0] at r2
   refine ⟨p, c, .refl _ _, by simpa using r2, r3.1, fun _ _ _ => rfl, fun i hi hm => ?_⟩
   have h0 := s2 i hi hm
   rw [hz i hi (.inl h0), h0, hset0 i hi h0]
   exact ⟨rfl, rfl⟩
  ·obtain ⟨a1, a2, a3, a4, a5⟩ := along_parts (hal k k1) (hg k k1)
   obtain ⟨f1, f2, f3⟩ := fit_parts (hg k k1)
   obtain ⟨g1, g2, g3⟩ := f2 k2
   have hne : (clAt cs k).vals ≠ [] := fun hh => by
    have := (a5 g2).1.2 hh
    rw [k3] at this
    cases this
   have hzk := hz k k1 (.inr (.inl k2))
   have hkc : k < c.length := by rw [r3.1]; exact k1
   rcases hmid with ⟨hw, h⟩ | ⟨h, _⟩ | ⟨v, h, h'⟩
   ·rw [h, k4] at r2
    have hno : ∀ j, j < l.length → j ≠ k → NotOpen (itAt l j) (clAt c j) := fun j hj hjk => by
     have := acc_whole l.length hw j hj
     unfold WholeI at this
     simp only [Bool.or_eq_true, Bool.and_eq_true, Bool.not_eq_true'] at this
     rcases this with (q | q) | ⟨q1, q2⟩
     ·exact .inl (by simpa using q)
     ·exact (hjk (hone j k hj k1 q k2)).elim
     ·have hm : (itAt l j).mks.m = false := by
       cases hh : (itAt l j).mks.m with
       | false => rfl
       | true => exact (hjk (hone j k hj k1 hh k2)).elim
      exact .inr ⟨hm, by rw [hd j hj q2 hm q1]⟩
    obtain ⟨p', c', d1, d2, d3, d4, d5, d6⟩ := vals_run k1 k2 (hg k k1) (clAt cs k).vals c p r3.1 hno (hokT k k1) (by simpa [List.map_map, Function.comp_def] using r2)
    refine ⟨p', c', d1, d2, d3, fun i hi hm => d4 i (fun e => by rw [e, k2] at hm; cases hm), fun i hi hm => ?_⟩
    have e := hone i k hi k1 hm k2
    rw [e, d5, d6, hzk, k3]
    refine ⟨by simp [Cl.zero], ?_⟩
    cases hv : (clAt cs k).vals with
    | nil => exact (hne hv).elim
    | cons x r => rfl
   ·rw [k4] at h
    exact (hne h).elim
   ·rw [h'] at r2
    rw [k4] at h
    simp only [List.map_cons, List.map_nil, List.cons_append, List.nil_append, bs_list, k5] at r2
    obtain ⟨p', q1, q2⟩ := name_val (cs' := c) hnd t3 k1 a1 g2 g3 hzk (hokT k k1 v (by rw [h]; simp)) r2
    refine ⟨p', _, q2, q1, by rw [upd_len, upd_len]; exact r3.1, fun i hi hm => ?_, fun i hi hm => ?_⟩
    ·have hik : k ≠ i := fun e => by rw [← e, k2] at hm; cases hm
     rw [upd_ne _ _ _ _ hik, upd_ne _ _ _ _ hik]
    ·have e := hone i k hi k1 hm k2
     rw [e, upd_same _ _ _ (by rw [upd_len]; exact hkc), upd_same _ _ _ hkc, hzk, bs_of, h, k3]
     exact ⟨rfl, rfl⟩
 -- the rest
 have fin : ∀ c3, Fits L l p2 c2 (some c3) → c3.length = l.length → (∀ i, i < l.length → (itAt l i).mks.f = false → clAt c3 i = clAt c2 i) → (∀ i, i < l.length → (itAt l i).mks.f = true → (clAt c3 i).vals = (clAt cs i).vals ∧ (clAt c3 i).set = (clAt cs i).set) → ∃ c, Fits L l 0 (cls0 l) (some c) ∧ c.length = l.length ∧ ∀ i, i < l.length → (clAt c i).vals = (clAt cs i).vals ∧ (clAt c i).set = (clAt cs i).set := fun c3 h1 h2 h3 h4 => by
  refine ⟨c3, r1 _ (b1 _ h1), h2, fun i hi => ?_⟩
  by_cases hf : (itAt l i).mks.f = true
  ·exact h4 i hi hf
  have hf' : (itAt l i).mks.f = false := by simpa using hf
  rw [h3 i hi hf']
  by_cases hm : (itAt l i).mks.m = true
  ·exact b5 i hi hm
  have hm' : (itAt l i).mks.m = false := by simpa using hm
  rw [b4 i hi hm']
  cases hs : (clAt cs i).set with
  | false =>
   rw [hz i hi (.inl hs), hset0 i hi hs]
   exact ⟨rfl, rfl⟩
  | true =>
   rw [hd i hi hs hm' hf']
   exact ⟨rfl, rfl⟩
 rcases acc_last (ns := ns) (cs := cs) hg l.length (Nat.le_refl _) with ⟨s1, s2⟩ | ⟨k, k1, k2, k3, k4⟩
 ·rw [s1] at b2
  refine fin c2 (.done ?_) b3 (fun _ _ _ => rfl) fun i hi hf => ?_
  ·unfold stepA
   rw [At.fin b2]
  ·have h0 := s2 i hi hf
   have hm : (itAt l i).mks.m = false := ((fit_parts (hg i hi)).2.2 hf).2.1
   rw [b4 i hi hm, hz i hi (.inl h0), h0, hset0 i hi h0]
   exact ⟨rfl, rfl⟩
 ·obtain ⟨a1, a2, a3, a4, a5⟩ := along_parts (hal k k1) (hg k k1)
  obtain ⟨f1, f2, f3⟩ := fit_parts (hg k k1)
  obtain ⟨g1, g2, g3⟩ := f3 k2
  obtain ⟨e1, e2, e3⟩ := a5 g1
  have hv : (clAt cs k).vals = [fst (clAt cs k)] := by
   have := e2 g2
   unfold fst
   cases hvv : (clAt cs k).vals with
   | nil => rw [e1.2 hvv] at k3; cases k3
   | cons x r =>
    rw [hvv] at this
    have : r = [] := List.length_eq_zero_iff.1 (by simpa using this)
    rw [this]
    rfl
  rw [k4] at b2
  have hz2 : clAt c2 k = Cl.zero := by rw [b4 k k1 g2, hz k k1 (.inr (.inr k2))]
  have hkc : k < c2.length := by rw [b3]; exact k1
  have hft := name_rest (cs' := c2) hnd t3 k1 a1 g1 k2 hz2 (w := (fst (clAt cs k)).data.toList) (e3 k2 k3) b2
  refine fin _ hft (by rw [upd_len, upd_len]; exact b3) (fun i hi hf => ?_) fun i hi hf => ?_
  ·have hik : k ≠ i := fun e => by rw [← e, k2] at hf; cases hf
   rw [upd_ne _ _ _ _ hik, upd_ne _ _ _ _ hik]
  ·have e : i = k := by have := hlast i hi hf; have := hlast k k1 k2; omega
   rw [e, upd_same _ _ _ (by rw [upd_len]; exact hkc), upd_same _ _ _ hkc, hz2, k3, hv]
   exact ⟨by show [bs (fst (clAt cs k)).data.toList] = _; rw [bs_of], rfl⟩
end Go.Proofs.YtdmemibnphcedaaGreatDoor
end
