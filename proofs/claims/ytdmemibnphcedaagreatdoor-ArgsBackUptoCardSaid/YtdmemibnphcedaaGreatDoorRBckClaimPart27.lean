/-
  The chapter's list of arguments, as it is changed.
  The chapter's fitted.
  The chapter's Fit.
  Lists of arguments read: Get, EqArgs.
-/
import Derived.Test.YtdmemibnphcedaaGreatDoorRBckClaimPart26
section
set_option linter.unusedSimpArgs false
set_option linter.unusedVariables false
set_option maxRecDepth 10000
set_option linter.unusedSectionVars false
namespace Go.Proofs.YtdmemibnphcedaaGreatDoor
open Go.Am
attribute [local irreducible] callO wopK ropK popK opK grpsE listE sx Runs

theorem AgR.sub {ok ok' : Nat → Prop} {g : Bool} {st : St} {v : Value} {ns : List ByteArray} {cs : List Cl} (h : AgR ok g st v ns cs) (hok : ∀ n, ok n → n ≤ st.next → ok' n) : AgR ok' g st v ns cs := by
 obtain ⟨es, vf, h1, h2, h3, h4, h5⟩ := h
 refine ⟨es, vf, h1, h2.imp id fun h => hok _ h h3, h3, h4, fun j hj => ?_⟩
 obtain ⟨k1, k2, k3, k4⟩ := h5 j hj
 exact ⟨k1, k2.imp id fun h => ⟨hok _ h.1 k3, h.2⟩, k3, k4⟩
theorem AgR.nam {ok : Nat → Prop} {g : Bool} {st : St} {v : Value} {ns : List ByteArray} {cs : List Cl} (h : AgR ok g st v ns cs) (k : Nat) : AgR ok g st v ns (upd' cs k Cl.nam) := by
 obtain ⟨es, vf, h1, h2, h3, h4, h5⟩ := h
 have e : ∀ j, j < cs.length → (clAt (upd' cs k Cl.nam) j).vals = (clAt cs j).vals ∧ (clAt (upd' cs k Cl.nam) j).set = (clAt cs j).set := fun j hj => by
  by_cases e : k = j
  ·subst e; rw [upd_same _ _ _ hj]; exact ⟨rfl, rfl⟩
  ·rw [upd_ne _ _ _ _ e]; exact ⟨rfl, rfl⟩
 refine ⟨es, vf, by rw [upd_len]; exact h1, h2, h3, fun j hj => ?_, fun j hj => ?_⟩
 ·rw [upd_len] at hj
  rw [(e j hj).2]
  exact h4 j hj
 ·rw [upd_len] at hj ⊢
  rw [(e j hj).1]
  exact h5 j hj

/-- the arguments and which were named; a block that may be written besides -/
structure AgS (s0 st : St) (av : Value) (bn b0 : Nat) (l : List IM) (cs : List Cl) : Prop where
 frm : Frm s0 st
 ag : AgR (fun n => s0.next + 1 ≤ n ∧ n ≠ bn + 1 ∧ n ≠ b0 + 1) true st av (l.map nm0) cs
 nmd : ∃ g, st.get bn = some (.row (cs.map fun c => .bool c.nm) g false)
 bn1 : s0.next ≤ bn
 bn2 : bn < st.next
 len : cs.length = l.length

section
variable {s0 st st' : St} {av : Value} {bn b0 k : Nat} {l : List IM} {cs : List Cl}
theorem AgS.keep (h : AgS s0 st av bn b0 l cs) (F : Frm st st') : AgS s0 st' av bn b0 l cs := by
 obtain ⟨g, hg⟩ := h.nmd
 exact ⟨h.frm.trans F, h.ag.keep F.nx fun i _ hi => F.old i hi, ⟨g, (F.old _ h.bn2).trans hg⟩, h.bn1, Nat.lt_of_lt_of_le h.bn2 F.nx, h.len⟩
theorem AgS.box (h : AgS s0 st av bn bn l cs) (hb : st.next ≤ b0) : AgS s0 st av bn b0 l cs := ⟨h.frm, h.ag.sub fun n hn hl => ⟨hn.1, hn.2.1, by omega⟩, h.nmd, h.bn1, h.bn2, h.len⟩
/-- what may be read, and how an item is named -/
theorem AgS.named (h : AgS s0 st av bn b0 l cs) (hk : k < l.length) : ∃ s1, (∀ K : Value → Prop, popK (.indexAddr 1) [.slice (some ⟨bn, 0, none⟩) l.length l.length, .int .i64 (k : Int)] K = K (.pointer (some ⟨bn, k, none⟩))) ∧ (∀ K : Value → Prop, ropK .load1 [.pointer (some ⟨bn, k, none⟩)] st K = K (.bool (clAt cs k).nm)) ∧
  (∀ W : Value → St → Prop, wopK (.store 1) [.pointer (some ⟨bn, k, none⟩), .bool true] st W = W undef s1) ∧ AgS s0 s1 av bn b0 l (upd' cs k Cl.nam) ∧ s1.next = st.next ∧ ∀ i, i ≠ bn → s1.get i = st.get i := by
 obtain ⟨g, hg⟩ := h.nmd
 have hcl := h.len
 have hl : k < (cs.map fun c => Value.bool c.nm).length := by rw [List.length_map]; omega
 refine ⟨st.put bn (some (.row (lputs (cs.map fun c => Value.bool c.nm) k [.bool true]) g false)), fun K => ?_, fun K => ?_, fun W => ?_, ?_, rfl, fun i hi => get_put_ne _ _ _ _ (Ne.symm hi)⟩
 ·rw [pk_indexAddr]
  have e : (0 : Nat) + (k : Int).toNat * 1 = k := by omega
  rw [e]
  exact propext ⟨fun h => h.2, fun h => ⟨⟨by omega, by omega⟩, h⟩⟩
 ·rw [rk_load1, hg]
  simp only [getK, rowK]
  exact nthK_at (map_at cs k (by omega)) K
 ·rw [wk_store, hg]
  simp only [getK, rowK]
  exact propext ⟨fun h => h.2.2, fun h => ⟨rfl, ⟨by first | trivial | rfl, by omega, by rfl⟩, h⟩⟩
 ·have hag := h.ag.keep (st' := st.put bn (some (.row (lputs (cs.map fun c => Value.bool c.nm) k [.bool true]) g false))) (Nat.le_refl _) fun i hi _ => get_put_ne _ _ _ _ (by omega)
  refine ⟨h.frm.put _ h.bn1 _, hag.nam k, ⟨g, ?_⟩, h.bn1, h.bn2, by rw [upd_len]; exact hcl⟩
  rw [map_upd _ _ _ (by omega), get_put_same]
  congr 2
  refine List.ext_getElem? fun i => ?_
  rw [lput1_get _ _ _ hl]
  by_cases e : i = k
  ·subst e; rw [if_pos rfl, List.getElem?_set_self hl]; rfl
  ·rw [if_neg e, List.getElem?_set_ne (Ne.symm e)]

theorem map_same (cs : List Cl) (k : Nat) (f : Cl → Cl) (hf : ∀ c, (f c).nm = c.nm) : (upd' cs k f).map (fun c => Value.bool c.nm) = cs.map fun c => Value.bool c.nm := by
 by_cases hk : k < cs.length
 ·rw [map_upd _ _ _ hk]
  refine List.ext_getElem? fun i => ?_
  by_cases e : k = i
  ·subst e; rw [List.getElem?_set_self (by rw [List.length_map]; exact hk), map_at cs k hk, hf]
  ·rw [List.getElem?_set_ne e]
 ·have : upd' cs k f = cs := List.set_eq_of_length_le (by omega)
  rw [this]

/-- an argument: where it is; how it is set -/
theorem AgS.arg (h : AgS s0 st av bn b0 l cs) (hk : k < l.length) : ∃ b s1, ow av = b + 1 ∧ s0.next ≤ b ∧ b < st.next ∧ b ≠ bn ∧ b ≠ b0 ∧ (∀ K : Value → Prop, popK (.indexAddr 3) [av, .int .i64 (k : Int)] K = K (.pointer (some ⟨b, k * 3, none⟩))) ∧ (∀ K : Value → Prop, ropK .load1 [.pointer (some ⟨b, k * 3 + 2, none⟩)] st K = K (.bool (clAt cs k).set)) ∧
  (∀ W : Value → St → Prop, wopK (.store 1) [.pointer (some ⟨b, k * 3 + 2, none⟩), .bool true] st W = W undef s1) ∧ AgS s0 s1 av bn b0 l (upd' cs k Cl.put) ∧ s1.next = st.next ∧ ∀ i, i ≠ b → s1.get i = st.get i := by
 obtain ⟨g, hg⟩ := h.nmd
 have hcl := h.len
 obtain ⟨b, vv, o1, o2, o3, o4, o5, o6, o7, o8, o9⟩ := h.ag.at (j := k) (by omega)
 obtain ⟨s1, z1, z2, z3, z4⟩ := h.ag.put_set (j := k) (by omega) Cl.put (fun c => ⟨rfl, rfl⟩) o1
 obtain ⟨okv, onx⟩ := h.ag.okv
 have okb : s0.next + 1 ≤ b + 1 ∧ b + 1 ≠ bn + 1 ∧ b + 1 ≠ b0 + 1 := by
  rcases okv with e | e
  ·omega
  ·rw [o1] at e; exact e
 have hfx := h.frm.nx
 have hb2 := h.bn2
 refine ⟨b, s1, o1, by omega, by omega, by omega, by omega, o2, o6, z1, ⟨⟨by omega, fun i hi => (z4 i (by omega)).trans (h.frm.old i hi)⟩, z2, ⟨g, ?_⟩, h.bn1, by omega, by rw [upd_len]; exact hcl⟩, z3, z4⟩
 rw [map_same cs k Cl.put fun c => rfl, z4 _ (by omega)]
 exact hg

def Cl.vl (w : ByteArray) (c : Cl) : Cl := ⟨c.vals ++ [w], c.set, c.nm⟩
/-- a value more -/
theorem AgS.push (h : AgS s0 st av bn b0 l cs) (hk : k < l.length) (w : ByteArray) (hvl : (clAt cs k).vals.length ≤ 90000) (h0 : b0 < st.next) : ∃ b vv, ow av = b + 1 ∧ b < st.next ∧ (∀ K : Value → Prop, ropK .load1 [.pointer (some ⟨b, k * 3 + 1, none⟩)] st K = K vv) ∧ cellEq vv vv = true ∧
  ∀ W : Value → St → Prop, (∀ v' s7 s8, (∀ W' : Value → St → Prop, wopK (.store 1) [.pointer (some ⟨b, k * 3 + 1, none⟩), v'] s7 W' = W' undef s8) → AgS s0 s8 av bn b0 l (upd' cs k (Cl.vl w)) → (∀ i, i = b0 → s8.get i = st.get i) → st.next ≤ s8.next → W v' s7) →
   wopK (.append 1 16) [vv, .slice (some ⟨st.next, 0, none⟩) 1 1] (st.new (.row [.string w] 0 false)) W := by
 obtain ⟨g, hg⟩ := h.nmd
 have hcl := h.len
 obtain ⟨b, vv, y1, y2, y3, y4, y5, y6, y7, y8, y9⟩ := h.ag.at (j := k) (by omega)
 obtain ⟨okv, onx⟩ := h.ag.okv
 have okb : s0.next + 1 ≤ b + 1 ∧ b + 1 ≠ bn + 1 ∧ b + 1 ≠ b0 + 1 := by
  rcases okv with e | e
  ·omega
  ·rw [y1] at e; exact e
 have hfx := h.frm.nx
 have hb1 := h.bn1
 have hb2 := h.bn2
 refine ⟨b, vv, y1, by omega, y5, (y7.2.2 rfl).ceq, fun W hW => ?_⟩
 obtain ⟨s6, hs6⟩ : ∃ s6, s6 = st.new (.row [.string w] 0 false) := ⟨_, rfl⟩
 have n6 : s6.next = st.next + 1 := by rw [hs6]; rfl
 have f6 : ∀ i, i < st.next → s6.get i = st.get i := fun i hi => by rw [hs6]; exact get_new_ne _ _ _ (by omega)
 have q26 := h.ag.keep (st' := s6) (by omega) fun i _ hi => f6 i hi
 have ld6 : ∀ K : Value → Prop, ropK .load1 [.pointer (some ⟨b, k * 3 + 1, none⟩)] s6 K = K vv := fun K => by
  rw [rk_load1, f6 _ (by omega), ← rk_load1]; exact y5 K
 have hsb : s6.get st.next = some (.row [.string w] 0 false) := by rw [hs6]; exact get_new_same _ _
 rw [← hs6]
 refine appendK ((y7.2.2 rfl).keep fun i hi => f6 i (by omega)) hsb rfl (by decide) rfl (by omega) (by omega) fun s7 k1 k2 k3 => ?_
 have ok8 : ow vv = 0 ∨ (s0.next + 1 ≤ ow vv ∧ ow vv ≠ bn + 1 ∧ ow vv ≠ b0 + 1) := y8.imp id fun h => h.1
 have hvl7 : VlR true s7 (.slice (some ⟨s6.next, 0, none⟩) ((clAt cs k).vals.length + 1) ((clAt cs k).vals.length + 1)) ((clAt cs k).vals ++ [w]) := by
  refine GroK.vl ?_
  rw [List.map_append, List.length_append]
  exact k1
 obtain ⟨s8, z1, z2, z3, z4⟩ := q26.put_vals (j := k) (by omega) (fun c => ⟨(clAt cs k).vals ++ [w], c.set, c.nm⟩) (fun c => ⟨rfl, rfl⟩) y1 (fun h => h) (by omega) ld6 k3 hvl7 (by show s0.next + 1 ≤ s6.next + 1 ∧ s6.next + 1 ≠ bn + 1 ∧ s6.next + 1 ≠ b0 + 1; omega) (by show s6.next < s6.next + 1; omega) (by show s6.next + 1 ≤ s7.next; omega)
 have fr8 : ∀ i, i + 1 ≠ ow vv → i ≠ b → i < st.next → s8.get i = st.get i := fun i h1 h2 h3 => (z4 i h2).trans ((k3 i h1 (by omega)).trans (f6 i h3))
 refine hW _ s7 s8 z1 ⟨⟨by omega, fun i hi => (fr8 i (by omega) (by omega) (by omega)).trans (h.frm.old i hi)⟩, z2, ⟨g, ?_⟩, hb1, by omega, by rw [upd_len]; exact hcl⟩ (fun i hi => fr8 i (by omega) (by omega) (by omega)) (by omega)
 rw [map_same cs k (Cl.vl w) fun c => rfl]
 exact (fr8 _ (by omega) (by omega) hb2).trans hg

end
end Go.Proofs.YtdmemibnphcedaaGreatDoor
end
section
set_option linter.unusedSimpArgs false
set_option linter.unusedVariables false
set_option maxRecDepth 10000
set_option linter.unusedSectionVars false
namespace Go.Proofs.YtdmemibnphcedaaGreatDoor
open Go.Am
attribute [local irreducible] callO wopK ropK popK opK grpsE listE sx Runs

/-- the arguments so far -/
def F1 (s0 : St) (lv : Value) (s : ByteArray) (l : List IM) (vs : List Value) (st : St) : Prop :=
 ∃ (j : Nat) (av : Value), vs = [lv, .string s, av, .int .i64 (j : Nat)] ∧ j ≤ l.length ∧ Frm s0 st ∧ AgR (fun n => s0.next + 1 ≤ n) true st av (l.map nm0) (cls0 (l.take j))
/-- between two words -/
def F2 (s0 : St) (lv av : Value) (bn : Nat) (s : ByteArray) (l : List IM) (vs : List Value) (st : St) : Prop :=
 ∃ (p : Nat) (cs : List Cl), vs = [lv, .string s, av, .slice (some ⟨bn, 0, none⟩) l.length l.length, .int .i64 (p : Nat)] ∧ p ≤ s.size ∧ AgS s0 st av bn bn l cs ∧ Iv l cs ∧ (∀ k, (clAt cs k).vals.length ≤ p) ∧ ∀ q, Fits s.data.toList l p cs q → Fits s.data.toList l 0 (cls0 l) q

section
variable {st : St} {K : Value → St → Prop}

end
end Go.Proofs.YtdmemibnphcedaaGreatDoor
end
section
set_option linter.unusedSimpArgs false
set_option linter.unusedVariables false
set_option maxRecDepth 10000
set_option linter.unusedSectionVars false
namespace Go.Proofs.YtdmemibnphcedaaGreatDoor
open Go.Am
attribute [local irreducible] callO wopK ropK popK opK grpsE listE sx Runs

/-! ### values are no longer than the line, and there are no more of them -/
def Sm (L : List UInt8) (m : Nat) (cs : List Cl) : Prop := ∀ k, (clAt cs k).vals.length ≤ m ∧ ∀ v, v ∈ (clAt cs k).vals → v.size ≤ L.length + 1
theorem Sm.upd {L : List UInt8} {m m' : Nat} {cs : List Cl} (h : Sm L m cs) (k : Nat) (f : Cl → Cl) (hm : m ≤ m') (h1 : (f (clAt cs k)).vals.length ≤ m') (h2 : ∀ v, v ∈ (f (clAt cs k)).vals → v.size ≤ L.length + 1) : Sm L m' (upd' cs k f) := fun i => by
 by_cases e : k = i
 ·subst e
  by_cases hk : k < cs.length
  ·rw [upd_same _ _ _ hk]; exact ⟨h1, h2⟩
  ·have : upd' cs k f = cs := List.set_eq_of_length_le (by omega)
   rw [this]; exact ⟨Nat.le_trans (h k).1 hm, (h k).2⟩
 ·rw [upd_ne _ _ _ _ e]; exact ⟨Nat.le_trans (h i).1 hm, (h i).2⟩
theorem Sm.mono {L : List UInt8} {m m' : Nat} {cs : List Cl} (h : Sm L m cs) (hm : m ≤ m') : Sm L m' cs := fun i => ⟨Nat.le_trans (h i).1 hm, (h i).2⟩
theorem Sm.push {L : List UInt8} {m : Nat} {cs : List Cl} (h : Sm L m cs) (k : Nat) {w : List UInt8} (hw : w.length ≤ L.length + 1) : Sm L (m + 1) (upd' cs k (Cl.push (bs w))) := by
 refine h.upd k _ (Nat.le_succ _) (by have := (h k).1; simp [Cl.push]; omega) fun v hv => ?_
 rcases List.mem_append.1 hv with hv | hv
 ·exact (h k).2 v hv
 ·rw [List.mem_singleton.1 hv, bs_size]; exact hw
theorem Sm.rest {L : List UInt8} {m : Nat} {cs : List Cl} (h : Sm L m cs) {p k : Nat} {r : Option (List Cl)} (hr : restA L p k cs = .done r) : ∀ cs', r = some cs' → Sm L (m + 1) cs' := by
 unfold restA at hr
 split at hr
 ·cases hr
  rintro cs' ⟨⟩
  refine h.upd k _ (Nat.le_succ _) (by simp [Cl.one]) fun v hv => ?_
  rw [List.mem_singleton.1 hv, bs_size]
  have := trimE_le (L.drop p)
  rw [List.length_drop] at this
  omega
 ·cases hr
  intro cs' hh
  cases hh
theorem rest_done {L : List UInt8} {p k : Nat} {cs : List Cl} {a : Nat} {b : List Cl} (h : restA L p k cs = .go a b) : False := by
 unfold restA at h
 split at h <;> cases h

theorem Sm.val {L : List UInt8} {l : List IM} {m fr : Nat} {cs : List Cl} {w : Option (List UInt8 × Bool × Nat)} (h : Sm L m cs) (hw : ∀ a b c, w = some (a, b, c) → a.length ≤ L.length + 1) : (∀ p' cs', valA L l fr w cs = .go p' cs' → Sm L (m + 1) cs') ∧ ∀ cs', valA L l fr w cs = .done (some cs') → Sm L (m + 1) cs' := by
 unfold valA
 split
 ·exact ⟨fun _ _ h => (by cases h), fun _ h => (by cases h)⟩
 ·split
  ·exact ⟨fun _ _ h => (rest_done h).elim, fun cs' hh => h.rest hh cs' rfl⟩
  ·split
   ·exact ⟨fun _ _ h => (by cases h), fun _ h => (by cases h)⟩
   ·rename_i s q to
    split
    ·exact ⟨fun _ _ h => (by cases h), fun _ h => (by cases h)⟩
    ·refine ⟨fun p' cs' hh => ?_, fun _ h => (by cases h)⟩
     cases hh
     exact h.push _ (hw s q to rfl)
theorem Sm.nam {L : List UInt8} {l : List IM} {m k p : Nat} {cs : List Cl} (h : Sm L m cs) : (∀ p' cs', namA L l k p cs = .go p' cs' → Sm L (m + 1) cs') ∧ ∀ cs', namA L l k p cs = .done (some cs') → Sm L (m + 1) cs' := by
 have hon : Sm L m (upd' cs k Cl.on) := h.upd k _ (Nat.le_refl _) (h k).1 (h k).2
 unfold namA
 split
 ·exact ⟨fun _ _ h => (by cases h), fun _ h => (by cases h)⟩
 ·split
  ·refine ⟨fun p' cs' hh => ?_, fun _ h => (by cases h)⟩
   cases hh
   exact hon.mono (Nat.le_succ _)
  ·split
   ·exact ⟨fun _ _ h => (by cases h), fun _ h => (by cases h)⟩
   ·split
    ·exact ⟨fun _ _ h => (rest_done h).elim, fun cs' hh => hon.rest hh cs' rfl⟩
    ·exact ⟨fun _ _ h => (by cases h), fun _ h => (by cases h)⟩
   ·rename_i s q fr to hn
    split
    ·exact ⟨fun _ _ h => (rest_done h).elim, fun cs' hh => hon.rest hh cs' rfl⟩
    ·split
     ·exact ⟨fun _ _ h => (by cases h), fun _ h => (by cases h)⟩
     ·refine ⟨fun p' cs' hh => ?_, fun _ h => (by cases h)⟩
      cases hh
      exact hon.push _ (nxt_len hn)
theorem Sm.step {L : List UInt8} {l : List IM} {m p : Nat} {cs : List Cl} (h : Sm L m cs) : (∀ p' cs', stepA L l p cs = .go p' cs' → Sm L (m + 1) cs') ∧ ∀ cs', stepA L l p cs = .done (some cs') → Sm L (m + 1) cs' := by
 unfold stepA
 split
 ·refine ⟨fun _ _ h => (by cases h), fun cs' hh => ?_⟩
  cases hh
  exact h.mono (Nat.le_succ _)
 ·exact h.val fun a b c e => by cases e
 ·rename_i s q fr to hn
  split
  ·exact h.nam
  ·refine h.val fun a b c e => ?_
   cases e
   exact nxt_len hn
theorem Fits.small {L : List UInt8} {l : List IM} {p : Nat} {cs : List Cl} {r : Option (List Cl)} (h : Fits L l p cs r) : p ≤ L.length → Sm L p cs → ∀ cs', r = some cs' → Sm L (L.length + 1) cs' := by
 induction h with
 | done h =>
  intro hp hs cs' hr
  subst hr
  exact (hs.step.2 _ h).mono (by omega)
 | go h k ih =>
  intro hp hs cs' hr
  obtain ⟨g1, g2, _⟩ := stepA_go hp h
  exact ih g2 ((hs.step.1 _ _ h).mono (by omega)) cs' hr
theorem sm0 (L : List UInt8) (l : List IM) (m : Nat) : Sm L m (cls0 l) := fun k => by
 have : clAt (cls0 l) k = Cl.zero := by
  unfold clAt cls0
  rw [List.getD_eq_getElem?_getD, List.getElem?_map]
  cases l[k]? <;> rfl
 rw [this]
 exact ⟨Nat.zero_le _, fun v hv => by cases hv⟩

section
variable {st : St} {K : Value → St → Prop}

end
end Go.Proofs.YtdmemibnphcedaaGreatDoor
end
section
set_option linter.unusedSimpArgs false
set_option linter.unusedVariables false
set_option maxRecDepth 10000
set_option linter.unusedSectionVars false
namespace Go.Proofs.YtdmemibnphcedaaGreatDoor
open Go.Am
attribute [local irreducible] callO wopK ropK popK opK grpsE listE sx Runs

/-- a list of arguments that is read alone, now and later -/
def AgC (st : St) (v : Value) (ns : List ByteArray) (cs : List Cl) : Prop :=
 (∀ K : Value → Prop, popK .lenSl [v] K = K (.int .i64 (cs.length : Nat))) ∧ ∀ j, j < cs.length → ∃ (b : Nat) (vv : Value), (∀ K : Value → Prop, popK (.indexAddr 3) [v, .int .i64 (j : Int)] K = K (.pointer (some ⟨b, j * 3, none⟩))) ∧ oneCell vv = true ∧ ow vv ≤ st.next ∧ ∀ s', Frm st s' →
  (∀ K : Value → Prop, ropK (.loadN 3) [.pointer (some ⟨b, j * 3, none⟩)] s' K = K (.agg #[.string (ns.getD j .empty), vv, .bool (clAt cs j).set])) ∧ (∀ K : Value → Prop, ropK .load1 [.pointer (some ⟨b, j * 3 + 0, none⟩)] s' K = K (.string (ns.getD j .empty))) ∧
  (∀ K : Value → Prop, ropK .load1 [.pointer (some ⟨b, j * 3 + 1, none⟩)] s' K = K vv) ∧ (∀ K : Value → Prop, ropK .load1 [.pointer (some ⟨b, j * 3 + 2, none⟩)] s' K = K (.bool (clAt cs j).set)) ∧ Cel s' vv ((clAt cs j).vals.map Value.string)

theorem rk_loadK_of {st s' : St} {b o k : Nat} (h : s'.get b = st.get b) (K : Value → Prop) : ropK (.loadN k) [.pointer (some ⟨b, o, none⟩)] s' K = ropK (.loadN k) [.pointer (some ⟨b, o, none⟩)] st K := by
 simp only [ropK, rop, St.cells, h]
theorem AgR.agC {ok : Nat → Prop} {g : Bool} {st : St} {v : Value} {ns : List ByteArray} {cs : List Cl} (h : AgR ok g st v ns cs) : AgC st v ns cs := by
 refine ⟨h.len, fun j hj => ?_⟩
 obtain ⟨b, vv, o1, o2, o3, o4, o5, o6, o7, o8, o9⟩ := h.at hj
 obtain ⟨_, onx⟩ := h.okv
 refine ⟨b, vv, o2, o7.2.1, o9, fun s' F => ?_⟩
 have hb : s'.get b = st.get b := F.old b (by omega)
 refine ⟨fun K => ?_, fun K => ?_, fun K => ?_, fun K => ?_, o7.1.keep fun i hi => F.old i (by omega)⟩
 ·rw [rk_loadK_of hb]; exact o3 K
 ·rw [rk_load1, hb, ← rk_load1]; exact o4 K
 ·rw [rk_load1, hb, ← rk_load1]; exact o5 K
 ·rw [rk_load1, hb, ← rk_load1]; exact o6 K
theorem AgC.keep {st st' : St} {v : Value} {ns : List ByteArray} {cs : List Cl} (h : AgC st v ns cs) (F : Frm st st') : AgC st' v ns cs := by
 refine ⟨h.1, fun j hj => ?_⟩
 obtain ⟨b, vv, o1, o2, o3, o4⟩ := h.2 j hj
 exact ⟨b, vv, o1, o2, Nat.le_trans o3 F.nx, fun s' F' => o4 s' (F.trans F')⟩
theorem AgC.nil (st : St) : AgC st (.slice none 0 0) [] [] := (AgR.nil (ok := fun _ => True) (g := false) (ns := [])).agC
section
variable {st : St} {K : Value → St → Prop} {ns : List ByteArray} {cs : List Cl} {v u : Value} {x : ByteArray}

theorem kEqArgs (n : Nat) (hu : AgC st u ns cs) (hv : AgC st v ns cs) (hl : cs.length < 90000) (hvl : ∀ k, (clAt cs k).vals.length < 90000) (h : K (.bool true) st) :
  callK (callO T0 orc fns 100000 (n + 2)) 14 [u, v] st K := by
 refine fn_runs (fn := g14) ?_ ?_ ?_
 ·rfl
 ·rfl
 unfold g14
 have lu := hu.1
 have lv := hv.1
 simp (disch := omega) only [↓sxA, ↓wk_store, sxB, sxP, simprocAttr, ↓lu, ↓lv]
 refine loop_rule [0, 1, 5] (fun vs st' => st' = st ∧ ∃ j : Nat, vs = [u, v, .int .i64 (j : Nat)] ∧ j ≤ cs.length) (fun vs _ => match lget vs 2 with
   | .int _ k => ((cs.length : Int) - k).toNat
   | _ => 0) ?_ ?_ ?_
 ·rfl
 ·refine ⟨_, rfl, ⟨rfl, 0, rfl, Nat.zero_le _⟩, ?_⟩
  show ((cs.length : Int) - 0).toNat < 100000
  omega
 ·rintro vs st' ⟨rfl, j, rfl, hj⟩
  show sx _ _ _ _ _ [(0, _), (1, _), (5, _)] _ _ _ _
  by_cases hjl : j < cs.length
  ·obtain ⟨b, vv, o1, o2, o3, o4⟩ := hu.2 j hjl
   obtain ⟨b', vv', w1, w2, w3, w4⟩ := hv.2 j hjl
   obtain ⟨p1, p2, p3, p4, p5⟩ := o4 st' (Frm.refl _)
   obtain ⟨q1, q2, q3, q4, q5⟩ := w4 st' (Frm.refl _)
   have hmeas : ((cs.length : Int) - ((j : Int) + 1)).toNat < ((cs.length : Int) - j).toNat := by omega
   cases hs : (clAt cs j).set
   all_goals
    rw [hs] at p4 q4
    simp (disch := omega) only [↓sxA, ↓wk_store, sxB, sxP, simprocAttr, ↓lu, ↓o1, ↓w1, ↓p2, ↓q2, ↓p3, ↓q3, ↓p4, ↓q4]
    refine kEqStrs n p5 q5 (hvl j) ?_
    simp (disch := omega) only [↓sxA, ↓wk_store, sxB, sxP, simprocAttr]
    exact ⟨_, rfl, ⟨j + 1, by simp, hjl⟩, hmeas⟩
  ·simp (disch := omega) only [↓sxA, ↓wk_store, sxB, sxP, simprocAttr, ↓lu]
   exact h

end
end Go.Proofs.YtdmemibnphcedaaGreatDoor
end
