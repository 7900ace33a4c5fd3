/-
  Rows that grow, rows of texts; the small functions of the templates.
  The library's functions as they are called; names; pieces; marks; two items held against each other.
  Marks as ints; two items held against each other; an item as the program reads it.
  An item as the program reads it.
-/
import Derived.Test.YtjomiadmminhfaaGreatDoorSFilClaimPart17
section
set_option linter.unusedSimpArgs false
set_option linter.unusedVariables false
set_option maxRecDepth 10000
set_option linter.unusedSectionVars false
namespace Go.Proofs.YtjomiadmminhfaaGreatDoor
open Go.Am

/-- a slice that grows: n elements, each of esz cells -/
def GroK (esz : Nat) (st : St) (v : Value) (cs : List Value) (n : Nat) : Prop :=
 (v = .slice none 0 0 ∧ cs = [] ∧ n = 0) ∨ ∃ b cap, v = .slice (some ⟨b, 0, none⟩) n cap ∧ n ≤ cap ∧ st.get b = some (.row cs esz false) ∧ cs.length = n * esz

section
variable {st st' : St} {v : Value} {cs new : List Value} {esz n : Nat}
theorem GroK.nil (esz : Nat) (st : St) : GroK esz st (.slice none 0 0) [] 0 := .inl ⟨rfl, rfl, rfl⟩
theorem GroK.keep (h : GroK esz st v cs n) (hb : ∀ i, i + 1 = ow v → st'.get i = st.get i) : GroK esz st' v cs n := by
 rcases h with h | ⟨b, cap, h1, h2, h3, h4⟩
 ·exact .inl h
 ·subst h1; exact .inr ⟨b, cap, rfl, h2, (hb b rfl).trans h3, h4⟩
theorem GroK.cel (h : GroK 1 st v cs n) : Cel st v cs ∧ cs.length = n := by
 rcases h with ⟨h1, h2, h3⟩ | ⟨b, cap, h1, h2, h3, h4⟩
 ·subst h1 h2 h3; exact ⟨.inl ⟨rfl, rfl⟩, rfl⟩
 ·rw [Nat.mul_one] at h4
  subst h1
  refine ⟨.inr (.inl ⟨b, 0, cap, cs, 1, false, by rw [h4], h3, by omega, by rw [List.drop_zero, List.take_length]⟩), h4⟩

theorem appendK {bytes sb g : Nat} {ro : Bool} (hv : GroK esz st v cs n) (hs : st.get sb = some (.row new g ro)) (hl : new.length = esz) (he : 0 < esz) (ho : new.all oneCell = true) (hb : (n + 1) * bytes ≤ 1099511627776) (hn : n + 1 ≤ 1099511627776) {W : Value → St → Prop}
  (h : ∀ st', GroK esz st' (.slice (some ⟨st.next, 0, none⟩) (n + 1) (n + 1)) (cs ++ new) (n + 1) → st'.next = st.next + 1 → (∀ i, i + 1 ≠ ow v → i < st.next → st'.get i = st.get i) → W (.slice (some ⟨st.next, 0, none⟩) (n + 1) (n + 1)) st') :
  wopK (.append esz bytes) [v, .slice (some ⟨sb, 0, none⟩) 1 1] st W := by
 have h1 : st.srcCells esz (.slice (some ⟨sb, 0, none⟩) 1 1) = some new := by
  simp only [St.srcCells, St.cells, hs, Nat.one_ne_zero, if_false]
  rw [if_pos (by show 0 + 1 * esz ≤ _; omega), List.drop_zero, List.take_of_length_le (by omega)]
 have e0 : esz ≠ 0 := by omega
 simp only [wopK, wop, appendV, srcLen, h1, Nat.one_ne_zero, if_false, ho, not_true_eq_false, or_false, e0]
 rcases hv with ⟨q1, q2, q3⟩ | ⟨b, cap, q1, q2, q3, q4⟩
 ·subst q1 q2 q3
  simp only
  rw [if_pos ⟨by simpa using hb, by decide⟩]
  refine h _ (.inr ⟨st.next, 1, rfl, Nat.le_refl _, get_new_same _ _, by simpa using hl⟩) rfl fun i _ hi => get_new_ne _ _ _ (by omega)
 ·subst q1
  have h3 : st.cells ⟨b, 0, none⟩ (n * esz) = some cs := by
   simp only [St.cells, q3]
   rw [if_pos (by show 0 + n * esz ≤ _; omega), List.drop_zero, List.take_of_length_le (by omega)]
  simp only [q3, h3, e0, if_false]
  rw [if_pos ⟨hb, hn⟩, if_pos ⟨trivial, trivial, Nat.zero_le _⟩]
  refine h _ (.inr ⟨st.next, n + 1, rfl, Nat.le_refl _, ?_, ?_⟩) rfl fun i hi hlt => ?_
  ·exact get_new_same (st.put b none) _
  ·rw [List.length_append, q4, hl, Nat.add_mul, Nat.one_mul]
  ·show ((st.put b none).new _).get i = _
   rw [get_new_ne _ _ _ (by show st.next ≠ i; omega), get_put_ne _ _ _ _ (fun e => hi (by rw [← e]; rfl))]

/-- a row that is laid -/
theorem cel_row {b cap g : Nat} {ro : Bool} (h : st.get b = some (.row cs g ro)) (hn : cs.length = n) : Cel st (.slice (some ⟨b, 0, none⟩) n cap) cs :=
 .inr (.inl ⟨b, 0, cap, cs, g, ro, by rw [hn], h, by omega, by rw [List.drop_zero, List.take_length]⟩)

/-- the cells of an element -/
theorem rk_loadK {b o k g : Nat} {ro : Bool} {xs : List Value} (hb : st.get b = some (.row cs g ro)) (hx : (cs.drop o).take k = xs) (hk : xs.length = k) (hk0 : 0 < k) (K : Value → Prop) : ropK (.loadN k) [.pointer (some ⟨b, o, none⟩)] st K = K (.agg xs.toArray) := by
 have hle : o + k ≤ cs.length := by
  have := congrArg List.length hx
  rw [List.length_take, List.length_drop, hk] at this
  omega
 simp only [ropK, rop, St.cells, hb]
 rw [if_pos (by show o + k ≤ _; exact hle)]
 show K (.agg ((cs.drop o).take k).toArray) = _
 rw [hx]
end

section
variable {K : Value → Prop}
theorem q_indexStr (s : ByteArray) (k : IntKind) (i : Int) (h0 : 0 ≤ i) (h1 : i < (s.size : Int)) : popK .indexStr [.string s, .int k i] K = K (.int .u8 ((s.data.toList.getD i.toNat 0).toNat)) := by
 have hl : i.toNat < s.data.toList.length := by rw [← size_list]; omega
 simp only [popK, pop, if_pos h0, List.getD_eq_getElem?_getD, List.getElem?_eq_getElem hl, Option.map_some, Option.getD_some]
theorem q_slBoth (s : ByteArray) (k k' : IntKind) (a b : Int) (h0 : 0 ≤ a) (h1 : a ≤ b) (h2 : b ≤ (s.size : Int)) : popK (.slStr true true) [.string s, .int k a, .int k' b] K = K (.string (s.extract a.toNat b.toNat)) := by
 have m : max b 0 = b := by omega
 have b0 : 0 ≤ b := by omega
 simp [popK, pop, bounds, bound, b0, h2, m, h0, h1]
end
theorem extract_bs (s : ByteArray) (a b : Nat) : s.extract a b = bs ((s.data.toList.drop a).take (b - a)) := by
 rw [← Lib.extract_data, bs_of]

attribute [local irreducible] callO wopK ropK popK opK grpsE listE sx Runs

section
variable {st : St} {v u : Value} {K : Value → St → Prop} {xs : List ByteArray} {x : ByteArray}

end
end Go.Proofs.YtjomiadmminhfaaGreatDoor
end
section
set_option linter.unusedSimpArgs false
set_option linter.unusedVariables false
set_option maxRecDepth 10000
set_option linter.unusedSectionVars false
namespace Go.Proofs.YtjomiadmminhfaaGreatDoor
open Go.Am

/-- a row of cells, laid from its beginning; not empty -/
def Row1 (st : St) (v : Value) (cs : List Value) : Prop := ∃ b cap g ro, v = .slice (some ⟨b, 0, none⟩) cs.length cap ∧ cs.length ≤ cap ∧ 0 < cs.length ∧ st.get b = some (.row cs g ro) ∧ (g = 0 ∨ g = 1)

section
variable {st st' : St} {v : Value} {cs : List Value}
theorem Row1.cel (h : Row1 st v cs) : Cel st v cs := by
 obtain ⟨b, cap, g, ro, h1, h2, h3, h4, h5⟩ := h
 subst h1
 exact cel_row h4 rfl
theorem Row1.keep (h : Row1 st v cs) (hb : ∀ i, i + 1 = ow v → st'.get i = st.get i) : Row1 st' v cs := by
 obtain ⟨b, cap, g, ro, h1, h2, h3, h4, h5⟩ := h
 subst h1
 exact ⟨b, cap, g, ro, rfl, h2, h3, (hb b rfl).trans h4, h5⟩
end

/-! ### a trim that leaves nothing -/
theorem orc_eq {f : FuncId} (h : f ≠ 5) (args : List Value) (st : St) : orc f args st = orc1 f args st := by
 rfl

section
variable {st : St} {K : Value → St → Prop}
end
attribute [local irreducible] callO wopK ropK popK opK grpsE listE sx Runs

section
variable {st : St} {v u : Value} {K : Value → St → Prop} {xs : List ByteArray} {x : ByteArray}

end
end Go.Proofs.YtjomiadmminhfaaGreatDoor
end
section
set_option linter.unusedSimpArgs false
set_option linter.unusedVariables false
set_option maxRecDepth 10000
set_option linter.unusedSectionVars false
namespace Go.Proofs.YtjomiadmminhfaaGreatDoor
open Go.Am

/-! ### marks as ints -/
def Mk.put (x : Mk) : Nat → Mk
 | 0 => { x with a := true }
 | 1 => { x with k := true }
 | 2 => { x with s := true }
 | 3 => { x with n := true }
 | 4 => { x with m := true }
 | _ => { x with f := true }
def p2 : Nat → Int
 | 0 => 1
 | 1 => 2
 | 2 => 4
 | 3 => 8
 | 4 => 16
 | _ => 32
def lt (i : Nat) : ByteArray := ⟨#[match i with | 0 => 97 | 1 => 107 | 2 => 115 | 3 => 110 | 4 => 109 | _ => 102]⟩
section
variable {K : Value → Prop}
end

/-- the cells of an item -/
def itCells (nv : Value) (x : Mk) : List Value := [nv, .bool x.a, .bool x.k, .bool x.s, .bool x.n, .bool x.m, .bool x.f]

theorem resP_k1 (e : Env) (s : St) (a b n : Nat) (Q : Value → St → Prop) : resP e s [(a, n + 2), (b, 0)] Q = getE e a fun u => ropK (.loadN n) [u] s fun x => getE e b fun v => Q (.tuple #[x, v]) s := by
 unfold resP getE ropK
 simp only [resE, res1E]
 cases e.get? a with
 | none => rfl
 | some u =>
  simp only
  cases rop (.loadN n) [u] s with
  | none => rfl
  | some x =>
   simp only
   cases e.get? b <;> rfl

attribute [local irreducible] callO wopK ropK popK opK grpsE listE sx Runs

section
variable {st : St} {v u nv : Value} {K : Value → St → Prop} {xs : List ByteArray} {x : Mk}

end
end Go.Proofs.YtjomiadmminhfaaGreatDoor
end
section
set_option linter.unusedSimpArgs false
set_option linter.unusedVariables false
set_option maxRecDepth 10000
set_option linter.unusedSectionVars false
namespace Go.Proofs.YtjomiadmminhfaaGreatDoor
open Go.Am
theorem rk_loadAll {st : St} {b k g : Nat} {ro : Bool} {cs : List Value} (hb : st.get b = some (.row cs g ro)) (hl : cs.length = k) (hk0 : 0 < k) (K : Value → Prop) : ropK (.loadN k) [.pointer (some ⟨b, 0, none⟩)] st K = K (.agg cs.toArray) :=
 rk_loadK hb (by rw [List.drop_zero, List.take_of_length_le (by omega)]) hl hk0 K

attribute [local irreducible] callO wopK ropK popK opK grpsE listE sx Runs

/-- nothing that was has turned -/
structure Frm (st st' : St) : Prop where
 nx : st.next ≤ st'.next
 old : ∀ i, i < st.next → st'.get i = st.get i
theorem Frm.refl (st : St) : Frm st st := ⟨Nat.le_refl _, fun _ _ => rfl⟩
theorem Frm.trans {s1 s2 s3 : St} (h : Frm s1 s2) (k : Frm s2 s3) : Frm s1 s3 := ⟨Nat.le_trans h.nx k.nx, fun i hi => (k.old i (Nat.lt_of_lt_of_le hi h.nx)).trans (h.old i hi)⟩
theorem Frm.new (st : St) (o : AObj) : Frm st (st.new o) := ⟨Nat.le_succ _, fun i hi => get_new_ne _ _ _ (by omega)⟩
theorem Frm.put {st s : St} (h : Frm st s) (i : Nat) (hi : st.next ≤ i) (o : Option AObj) : Frm st (s.put i o) := ⟨h.nx, fun j hj => (get_put_ne _ _ _ _ (by omega)).trans (h.old j hj)⟩
theorem Frm.max {st s : St} (h : Frm st s) (h0 : 0 < st.next) (hm : hasMax st = true) : hasMax s = true := by
 have : hasMax s = hasMax st := by unfold hasMax; rw [h.old 0 h0]
 rw [this]; exact hm

section
variable {st : St} {K : Value → St → Prop}

end
end Go.Proofs.YtjomiadmminhfaaGreatDoor
end
