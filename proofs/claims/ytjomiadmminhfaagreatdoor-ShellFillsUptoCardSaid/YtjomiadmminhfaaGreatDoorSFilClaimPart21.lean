/-
  Which item a word belongs to, in plain words. (No program in sight.)
  How a line fits a template, word by word, in plain words. (No program in sight.)
-/
import Derived.Test.YtjomiadmminhfaaGreatDoorSFilClaimPart17
section
set_option linter.unusedSimpArgs false
set_option linter.unusedVariables false
set_option maxRecDepth 10000
namespace Go.Proofs.YtjomiadmminhfaaGreatDoor
open Go.Am

/-! ### which item -/
structure Cl where
 vals : List ByteArray
 set : Bool
 nm : Bool
def Cl.zero : Cl := ⟨[], false, false⟩
open Classical in
noncomputable def knownL (s : ByteArray) : List IM → Nat → Int
 | [], _ => -1
 | x :: r, i => if s ∈ x.names then i else knownL s r (i + 1)
def openL : List IM → List Cl → Nat → Int → Int
 | x :: l, c :: cs, i, m => if (x.mks.s || x.mks.k) = true then openL l cs (i + 1) m else if x.mks.m = true then openL l cs (i + 1) i else if c.set = true then openL l cs (i + 1) m else i
 | _, _, _, m => m

def mkAt (l : List IM) (k : Nat) : Mk := (l.getD k ⟨[], Mk.none⟩).mks
def clAt (cs : List Cl) (k : Nat) : Cl := cs.getD k Cl.zero

/-- what the search for an open item gives -/
theorem openL_spec : ∀ (l : List IM) (cs : List Cl) (i : Nat) (m : Int), l.length = cs.length → (openL l cs i m = m ∨ ∃ k, k < l.length ∧ openL l cs i m = ((i + k : Nat) : Int) ∧ ((mkAt l k).m = true ∨ (clAt cs k).set = false))
 | [], [], i, m, _ => .inl rfl
 | [], _ :: _, i, m, h => by simp at h
 | _ :: _, [], i, m, h => by simp at h
 | x :: l, c :: cs, i, m, h => by
  have hl : l.length = cs.length := by simpa using h
  have shift : ∀ m', (openL l cs (i + 1) m' = m' ∨ ∃ k, k < l.length ∧ openL l cs (i + 1) m' = ((i + 1 + k : Nat) : Int) ∧ ((mkAt l k).m = true ∨ (clAt cs k).set = false)) → (openL l cs (i + 1) m' = m' ∨ ∃ k, k < (x :: l).length ∧ openL l cs (i + 1) m' = ((i + k : Nat) : Int) ∧ ((mkAt (x :: l) k).m = true ∨ (clAt (c :: cs) k).set = false)) := fun m' hh => by
   rcases hh with hh | ⟨k, k1, k2, k3⟩
   ·exact .inl hh
   ·refine .inr ⟨k + 1, by simp; omega, by rw [k2]; congr 1; omega, ?_⟩
    simpa [mkAt, clAt] using k3
  simp only [openL]
  split
  ·exact shift m (openL_spec l cs (i + 1) m hl)
  ·split
   ·rename_i hm
    rcases shift i (openL_spec l cs (i + 1) i hl) with hh | hh
    ·exact .inr ⟨0, by simp, by rw [hh]; simp, .inl (by simpa [mkAt] using hm)⟩
    ·exact .inr hh
   ·split
    ·exact shift m (openL_spec l cs (i + 1) m hl)
    ·rename_i hs
     exact .inr ⟨0, by simp, by simp, .inr (by simpa [clAt] using hs)⟩
end Go.Proofs.YtjomiadmminhfaaGreatDoor
end
section
set_option linter.unusedSimpArgs false
set_option linter.unusedVariables false
set_option maxRecDepth 10000
namespace Go.Proofs.YtjomiadmminhfaaGreatDoor
open Go.Am

def upd' (cs : List Cl) (k : Nat) (f : Cl → Cl) : List Cl := cs.set k (f (clAt cs k))
def Cl.push (s : ByteArray) (c : Cl) : Cl := ⟨c.vals ++ [s], true, c.nm⟩
def Cl.one (s : ByteArray) (c : Cl) : Cl := ⟨[s], true, c.nm⟩
def Cl.on (c : Cl) : Cl := ⟨c.vals, true, true⟩

theorem upd_len (cs : List Cl) (k : Nat) (f : Cl → Cl) : (upd' cs k f).length = cs.length := List.length_set
theorem upd_same (cs : List Cl) (k : Nat) (f : Cl → Cl) (h : k < cs.length) : clAt (upd' cs k f) k = f (clAt cs k) := by
 simp [clAt, upd', List.getD_eq_getElem?_getD, h]
theorem upd_ne (cs : List Cl) (k j : Nat) (f : Cl → Cl) (h : k ≠ j) : clAt (upd' cs k f) j = clAt cs j := by
 simp [clAt, upd', List.getD_eq_getElem?_getD, List.getElem?_set_ne h]
theorem upd_upd (cs : List Cl) (k : Nat) (f g : Cl → Cl) (h : k < cs.length) : upd' (upd' cs k f) k g = upd' cs k (fun c => g (f c)) := by
 unfold upd'
 have := upd_same cs k f h
 unfold upd' at this
 rw [this, List.set_set]

inductive Stp where
 | done (r : Option (List Cl))
 | go (at' : Nat) (cs : List Cl)

def restA (L : List UInt8) (p k : Nat) (cs : List Cl) : Stp :=
 if (L.drop p).all prn = true ∧ trimE (L.drop p) ≠ [] then .done (some (upd' cs k (Cl.one (bs (trimE (L.drop p)))))) else .done none
def valA (L : List UInt8) (l : List IM) (p : Nat) (w : Option (List UInt8 × Bool × Nat)) (cs : List Cl) : Stp :=
 if openL l cs 0 (-1) < 0 then .done none
 else if (mkAt l (openL l cs 0 (-1)).toNat).f = true then restA L p (openL l cs 0 (-1)).toNat cs
 else match w with
  | none => .done none
  | some (s, q, to) => if q = false ∧ s = [61] then .done none else .go to (upd' cs (openL l cs 0 (-1)).toNat (Cl.push (bs s)))
def namA (L : List UInt8) (l : List IM) (k p : Nat) (cs : List Cl) : Stp :=
 if (clAt cs k).nm = true ∨ ((clAt cs k).set = true ∧ (mkAt l k).m = false) then .done none
 else if (mkAt l k).s = true then .go p (upd' cs k Cl.on)
 else match nxt L (eqA L p) with
  | .fin => .done none
  | .bad fr => if (mkAt l k).f = true then restA L fr k (upd' cs k Cl.on) else .done none
  | .wd s q fr to => if (mkAt l k).f = true then restA L fr k (upd' cs k Cl.on) else if q = false ∧ s = [61] then .done none else .go to (upd' (upd' cs k Cl.on) k (Cl.push (bs s)))
noncomputable def kn (l : List IM) (s : List UInt8) : Int := knownL (lowerV (bs s)) l 0
noncomputable def stepA (L : List UInt8) (l : List IM) (p : Nat) (cs : List Cl) : Stp :=
 match nxt L p with
 | .fin => .done (some cs)
 | .bad fr => valA L l fr none cs
 | .wd s q fr to => if q = false ∧ 0 ≤ kn l s then namA L l (kn l s).toNat to cs else valA L l fr (some (s, q, to)) cs

inductive Fits (L : List UInt8) (l : List IM) : Nat → List Cl → Option (List Cl) → Prop where
 | done {p : Nat} {cs : List Cl} {r : Option (List Cl)} : stepA L l p cs = .done r → Fits L l p cs r
 | go {p p' : Nat} {cs cs' : List Cl} {r : Option (List Cl)} : stepA L l p cs = .go p' cs' → Fits L l p' cs' r → Fits L l p cs r

theorem Fits.step {L : List UInt8} {l : List IM} {p p' : Nat} {cs cs' : List Cl} {r : Option (List Cl)} (h : Fits L l p cs r) (hs : stepA L l p cs = .go p' cs') : Fits L l p' cs' r := by
 cases h with
 | done h => rw [hs] at h; cases h
 | go h k => rw [hs] at h; cases h; exact k
theorem Fits.stop {L : List UInt8} {l : List IM} {p : Nat} {cs : List Cl} {r r' : Option (List Cl)} (h : Fits L l p cs r) (hs : stepA L l p cs = .done r') : r = r' := by
 cases h with
 | done h => rw [hs] at h; cases h; rfl
 | go h k => rw [hs] at h; cases h

/-- what a step may be -/
theorem stepA_go {L : List UInt8} {l : List IM} {p p' : Nat} {cs cs' : List Cl} (hp : p ≤ L.length) (h : stepA L l p cs = .go p' cs') : p < p' ∧ p' ≤ L.length ∧ Pr L p p' ∧ cs'.length = cs.length ∧ ∃ k f, cs' = upd' cs k f ∧ ((∀ v, v ∈ (clAt cs k).vals → v ∈ (f (clAt cs k)).vals) ∧ (f (clAt cs k)).set = true ∧ (f (clAt cs k)).vals.length ≤ (clAt cs k).vals.length + 1) := by
 unfold stepA at h
 split at h
 ·cases h
 ·rename_i fr hn
  unfold valA restA at h
  (split at h)
  ·cases h
  ·split at h
   ·split at h <;> cases h
   ·cases h
 ·rename_i s q fr to hn
  obtain ⟨n1, n2, n3, n4, n5⟩ := nxt_wd hp hn
  split at h
  ·unfold namA at h
   split at h
   ·cases h
   ·split at h
    ·cases h
     exact ⟨by omega, n4, n5, upd_len _ _ _, _, _, rfl, fun v hv => hv, rfl, Nat.le_succ _⟩
    ·obtain ⟨e1, e2, e3⟩ := eqA_le (L := L) (p := to) n4
     split at h
     ·cases h
     ·unfold restA at h
      split at h
      ·split at h <;> cases h
      ·cases h
     ·rename_i s' q' fr' to' hn'
      obtain ⟨m1, m2, m3, m4, m5⟩ := nxt_wd e2 hn'
      split at h
      ·unfold restA at h
       split at h <;> cases h
      ·split at h
       ·cases h
       ·injection h with h1 h2
        subst h1 h2
        refine ⟨by omega, m4, n5.split (e3.split m5), by rw [upd_len, upd_len], ?_⟩
        by_cases hk : (kn l s).toNat < cs.length
        ·rw [upd_upd _ _ _ _ hk]
         exact ⟨_, _, rfl, fun v hv => by simp [Cl.push, Cl.on, hv], rfl, by simp [Cl.push, Cl.on]⟩
        ·have e : ∀ f, upd' cs (kn l s).toNat f = cs := fun f => List.set_eq_of_length_le (by omega)
         rw [e, e]
         exact ⟨(kn l s).toNat, Cl.on, (e _).symm, fun v hv => hv, rfl, Nat.le_succ _⟩
  ·unfold valA at h
   split at h
   ·cases h
   ·split at h
    ·unfold restA at h
     split at h <;> cases h
    ·split at h
     ·cases h
     ·rename_i s' q' to' he
      cases he
      split at h
      ·cases h
      ·injection h with h1 h2
       subst h1 h2
       exact ⟨by omega, n4, n5, upd_len _ _ _, _, _, rfl, fun v hv => by simp [Cl.push, hv], rfl, by simp [Cl.push]⟩

theorem mono_upd {cs : List Cl} {k : Nat} {f : Cl → Cl} (hf : ∀ v, v ∈ (clAt cs k).vals → v ∈ (f (clAt cs k)).vals) (i : Nat) (v : ByteArray) (hv : v ∈ (clAt cs i).vals) : v ∈ (clAt (upd' cs k f) i).vals := by
 by_cases e : k = i
 ·subst e
  by_cases hk : k < cs.length
  ·rw [upd_same _ _ _ hk]; exact hf v hv
  ·have : upd' cs k f = cs := List.set_eq_of_length_le (by omega)
   rw [this]; exact hv
 ·rw [upd_ne _ _ _ _ e]; exact hv

/-- between two words: what is not set has no values; as many as items -/
def Iv (l : List IM) (cs : List Cl) : Prop := cs.length = l.length ∧ ∀ k, (clAt cs k).set = false → (clAt cs k).vals = []
theorem Iv.upd {l : List IM} {cs : List Cl} {k : Nat} {f : Cl → Cl} (h : Iv l cs) (hf : (f (clAt cs k)).set = true) : Iv l (upd' cs k f) := by
 refine ⟨by rw [upd_len]; exact h.1, fun i hi => ?_⟩
 by_cases e : k = i
 ·subst e
  by_cases hk : k < cs.length
  ·rw [upd_same _ _ _ hk, hf] at hi; cases hi
  ·have : upd' cs k f = cs := List.set_eq_of_length_le (by omega)
   rw [this] at hi ⊢; exact h.2 k hi
 ·rw [upd_ne _ _ _ _ e] at hi ⊢; exact h.2 i hi
theorem Iv.go {L : List UInt8} {l : List IM} {p p' : Nat} {cs cs' : List Cl} (h : Iv l cs) (hp : p ≤ L.length) (hs : stepA L l p cs = .go p' cs') : Iv l cs' := by
 obtain ⟨_, _, _, _, k, f, rfl, _, h2, _⟩ := stepA_go hp hs
 exact h.upd h2

/-- a step that is the last, and fits -/
theorem stepA_done {L : List UInt8} {l : List IM} {p : Nat} {cs cs' : List Cl} (hp : p ≤ L.length) (hi : Iv l cs) (hfit : ∀ k, (mkAt l k).f = true → (mkAt l k).m = false) (h : stepA L l p cs = .done (some cs')) : Pr L p L.length ∧ ∀ i v, v ∈ (clAt cs i).vals → v ∈ (clAt cs' i).vals := by
 have rst : ∀ {fr k : Nat} {f : Cl → Cl}, p ≤ fr → Pr L p fr → (clAt cs k).set = false → (∀ c, (f c).vals = c.vals) → restA L fr k (upd' cs k f) = .done (some cs') → Pr L p L.length ∧ ∀ i v, v ∈ (clAt cs i).vals → v ∈ (clAt cs' i).vals := fun {fr k f} h1 h2 h3 h4 hr => by
  unfold restA at hr
  split at hr
  ·rename_i hh
   cases hr
   refine ⟨h2.split fun i hi1 hi2 x hx => ?_, fun i v hv => ?_⟩
   ·have := hh.1
    rw [List.all_eq_true] at this
    refine this x ?_
    have : (L.drop fr)[i - fr]? = some x := by rw [List.getElem?_drop, show fr + (i - fr) = i by omega]; exact hx
    exact List.mem_of_getElem? this
   ·refine mono_upd (fun v hv => ?_) i v (mono_upd (fun v hv => by rw [h4]; exact hv) i v hv)
    have e : (clAt (upd' cs k f) k).vals = [] := by
     by_cases hk : k < cs.length
     ·rw [upd_same _ _ _ hk, h4]; exact hi.2 k h3
     ·have : upd' cs k f = cs := List.set_eq_of_length_le (by omega)
      rw [this]; exact hi.2 k h3
    rw [e] at hv
    cases hv
  ·cases hr
 have idd : ∀ k, upd' cs k (fun c => c) = cs := fun k => by
  unfold upd' clAt
  by_cases hk : k < cs.length
  ·rw [List.getD_eq_getElem?_getD, List.getElem?_eq_getElem hk, Option.getD_some, List.set_getElem_self]
  ·exact List.set_eq_of_length_le (by omega)
 have val : ∀ {fr : Nat} {w : Option (List UInt8 × Bool × Nat)}, p ≤ fr → Pr L p fr → valA L l fr w cs = .done (some cs') → Pr L p L.length ∧ ∀ i v, v ∈ (clAt cs i).vals → v ∈ (clAt cs' i).vals := fun {fr w} h1 h2 hv => by
  unfold valA at hv
  split at hv
  ·cases hv
  ·rename_i ho
   split at hv
   ·rename_i hf
    refine rst (f := fun c => c) h1 h2 ?_ (fun _ => rfl) (by rw [idd]; exact hv)
    rcases openL_spec l cs 0 (-1) hi.1.symm with hh | ⟨k, k1, k2, k3⟩
    ·rw [hh] at ho; exact absurd (by decide) ho
    ·have e : (openL l cs 0 (-1)).toNat = k := by rw [k2]; simp
     rw [e] at hf ⊢
     rcases k3 with k3 | k3
     ·rw [hfit k hf] at k3; cases k3
     ·exact k3
   ·split at hv
    ·cases hv
    ·split at hv <;> cases hv
 unfold stepA at h
 split at h
 ·rename_i hn
  cases h
  refine ⟨?_, fun _ _ hv => hv⟩
  have := (nxt_fin hp).1 hn
  have hb := blk_pr hp
  rw [this] at hb
  exact hb
 ·rename_i fr hn
  obtain ⟨b1, b2, b3, b4⟩ := nxt_bad hp hn
  exact val b2 b4 h
 ·rename_i s q fr to hn
  obtain ⟨n1, n2, n3, n4, n5⟩ := nxt_wd hp hn
  split at h
  ·unfold namA at h
   split at h
   ·cases h
   ·rename_i hns
    split at h
    ·cases h
    ·obtain ⟨e1, e2, e3⟩ := eqA_le (L := L) (p := to) n4
     have hset : (mkAt l (kn l s).toNat).f = true → (clAt cs (kn l s).toNat).set = false := fun hf => by
      cases hh : (clAt cs (kn l s).toNat).set with
      | false => rfl
      | true => exact (hns (.inr ⟨hh, hfit _ hf⟩)).elim
     split at h
     ·cases h
     ·rename_i fr' hn'
      obtain ⟨b1, b2, b3, b4⟩ := nxt_bad e2 hn'
      split at h
      ·rename_i hf
       exact rst (f := Cl.on) (by omega) (n5.split (e3.split b4)) (hset hf) (fun _ => rfl) h
      ·cases h
     ·rename_i s' q' fr' to' hn'
      obtain ⟨m1, m2, m3, m4, m5⟩ := nxt_wd e2 hn'
      split at h
      ·rename_i hf
       refine rst (f := Cl.on) (by omega) (n5.split (e3.split fun i h1 h2 => m5 i h1 (by omega))) (hset hf) (fun _ => rfl) h
      ·split at h <;> cases h
  ·exact val (by omega) (fun i h1 h2 => n5 i h1 (by omega)) h

/-- what fits has bytes that a line has; values stay -/
theorem Fits.good {L : List UInt8} {l : List IM} (hfit : ∀ k, (mkAt l k).f = true → (mkAt l k).m = false) {p : Nat} {cs : List Cl} {r : Option (List Cl)} (h : Fits L l p cs r) : p ≤ L.length → Iv l cs → ∀ cs', r = some cs' → Pr L p L.length ∧ ∀ i v, v ∈ (clAt cs i).vals → v ∈ (clAt cs' i).vals := by
 induction h with
 | done h => intro hp hi cs' hr; subst hr; exact stepA_done hp hi hfit h
 | go h k ih =>
  intro hp hi cs' hr
  obtain ⟨g1, g2, g3, g4, k', f, rfl, g5, g6, g7⟩ := stepA_go hp h
  obtain ⟨i1, i2⟩ := ih g2 (hi.upd g6) cs' hr
  exact ⟨g3.split i1, fun i v hv => i2 i v (mono_upd g5 i v hv)⟩

def cls0 (l : List IM) : List Cl := l.map fun _ => Cl.zero
theorem Fits.len {L : List UInt8} {l : List IM} (hfit : ∀ k, (mkAt l k).f = true → (mkAt l k).m = false) {p : Nat} {cs : List Cl} {r : Option (List Cl)} (h : Fits L l p cs r) : p ≤ L.length → Iv l cs → ∀ cs', r = some cs' → cs'.length = l.length := by
 induction h with
 | done h =>
  intro hp hi cs' hr
  subst hr
  unfold stepA at h
  have val : ∀ {fr : Nat} {w : Option (List UInt8 × Bool × Nat)} {cs1 : List Cl}, cs1.length = l.length → valA L l fr w cs1 = .done (some cs') → cs'.length = l.length := fun {fr w cs1} hc hv => by
   unfold valA restA at hv
   split at hv
   ·cases hv
   ·split at hv
    ·split at hv
     ·cases hv; rw [upd_len]; exact hc
     ·cases hv
    ·split at hv
     ·cases hv
     ·split at hv <;> cases hv
  split at h
  ·cases h; exact hi.1
  ·exact val hi.1 h
  ·split at h
   ·unfold namA restA at h
    split at h
    ·cases h
    ·split at h
     ·cases h
     ·split at h
      ·cases h
      ·split at h
       ·split at h
        ·cases h; rw [upd_len, upd_len]; exact hi.1
        ·cases h
       ·cases h
      ·split at h
       ·split at h
        ·cases h; rw [upd_len, upd_len]; exact hi.1
        ·cases h
       ·split at h <;> cases h
   ·exact val hi.1 h
 | go h k ih =>
  intro hp hi cs' hr
  obtain ⟨g1, g2, g3, g4, k', f, rfl, g5, g6, g7⟩ := stepA_go hp h
  exact ih g2 (hi.upd g6) cs' hr
end Go.Proofs.YtjomiadmminhfaaGreatDoor
end
