/-
  What the library's functions come to that are taken by their contracts: strings.Split, Join, Index, Trim, TrimRight, TrimPrefix, ToLower.
-/
import Derived.Test.YtdmemibnphcedaaGreatDoorRBckClaimPart10
import Derived.Test.YtdmemibnphcedaaGreatDoorRBckClaimPart11
import Derived.Test.YtdmemibnphcedaaGreatDoorRBckClaimPart12
import Derived.Test.YtdmemibnphcedaaGreatDoorRBckClaimPart13
import Derived.Test.YtdmemibnphcedaaGreatDoorRBckClaimPart14
import Derived.Test.YtdmemibnphcedaaGreatDoorRBckClaimPart17
import Derived.Test.YtdmemibnphcedaaGreatDoorRBckClaimPart18
set_option linter.unusedSimpArgs false
set_option linter.unusedVariables false
set_option maxRecDepth 10000
namespace Go.Am
section
variable {P : Program} {s : St}
/-- a call that is known to give a new row of plain values, and to leave the blocks that there were -/
theorem callOk_row {f : FuncId} {vs : List Value} {cs : List Value} (hcs : ∀ (μ : Nat → Spot) (n : Nat), VRs μ n cs cs)
  (h : ∀ (B0 : Nat) (W0 : World) (μ : Nat → Spot) (w : World) (args : List Value), Rel B0 W0 μ s w → Glob P μ s.next → VRs μ s.next vs args → Calls P f args.toArray w fun e w' => e = .returned (.slice (some ⟨w.heap.size, 0, none⟩) cs.length cs.length) ∧ ∃ t, w' = w.alloc (.cells cs.toArray t))
  {Q : Value × St → Prop} (hq : Q (.slice (some ⟨s.next, 0, none⟩) cs.length cs.length, s.new (.row cs 0 false))) : CallOk P f vs s Q := by
 intro B0 W0 μ w args hr hg ha
 refine (h B0 W0 μ w args hr hg ha).mono fun e w' ⟨he, t, hw⟩ => ?_
 subst hw
 refine ⟨_, _, _, hq, he, upd μ s.next ⟨w.heap.size, 0, cs.toArray.size, 0⟩, upd_agree _ _, hr.newRow cs 0 cs.toArray t (0, 0) (fun j v hj => ?_) (by simp) (fun x _ => by simp), ?_⟩
 ·obtain ⟨v', h1, h2⟩ := (hcs μ s.next).get hj
  exact ⟨v', by simpa using h1, h2⟩
 ·have := VR.slice (μ := upd μ s.next ⟨w.heap.size, 0, cs.toArray.size, 0⟩) (n := s.next + 1) s.next 0 0 cs.length cs.length cs.length (by omega) (Nat.le_refl _) (Nat.le_refl _) (fun _ => rfl) (fun _ => by simp [upd_same]) (by simp [upd_same]) (fun hh => by simp [upd_same] at hh)
  simpa [upd_same] using this
end
end Go.Am
namespace Go.Proofs.YtdmemibnphcedaaGreatDoor
open Go.Am
open Go.RowKit (Below)

/-- the begin: the variable 0 (bytealg.MaxLen) holds some int -/
def hasMax (s : St) : Bool :=
 match s.get 0 with
 | some (.row [.int .i64 _] _ _) => true
 | _ => false

/-- the variable strconv.ErrRange holds an error, or nil -/
def hasErr (s : St) : Bool :=
 match s.get 2 with
 | some (.row [.nilIface] _ _) => true
 | some (.row [.iface _ _] _ _) => true
 | _ => false

def asciiB (c : ByteArray) : Bool := c.data.toList.all fun b => decide (b.toNat < 128)

theorem ascii_at {c : ByteArray} (h : asciiB c = true) (j : Nat) (b : UInt8) (hj : c.data.toList[j]? = some b) : b.toNat < 128 := of_decide_eq_true (List.all_eq_true.1 h b (List.mem_of_getElem? hj))

theorem max_cell {B0 : Nat} {W0 : World} {μ : Nat → Spot} {s : St} {w : World} (hr : Rel B0 W0 μ s w) (hg : Glob Tryz.prog μ s.next) (h : hasMax s = true) : ∃ m, w.cell? ⟨0, 0, none⟩ = some (.int .i64 m) := by
 unfold hasMax at h
 split at h
 ·rename_i m g ro hget
  obtain ⟨v', h1, h2⟩ := (hr.known 0 _ hget).2.2.cellAt (j := 0) (v := .int .i64 m) rfl
  obtain ⟨_, k1, k2⟩ := hg 0 (by decide +kernel)
  rw [k1, k2] at h1
  cases h2
  exact ⟨m, h1⟩
 ·cases h

theorem err_cell {B0 : Nat} {W0 : World} {μ : Nat → Spot} {s : St} {w : World} (hr : Rel B0 W0 μ s w) (hg : Glob Tryz.prog μ s.next) (h : hasErr s = true) : 2 < w.heap.size ∧ ∃ ev, w.cell? ⟨2, 0, none⟩ = some ev ∧ (ev = .nilIface ∨ ∃ te pe, ev = .iface te pe) := by
 unfold hasErr at h
 split at h
 ·rename_i g ro hget
  obtain ⟨v', h1, h2⟩ := (hr.known 2 _ hget).2.2.cellAt (j := 0) (v := .nilIface) rfl
  have hb := (hr.known 2 _ hget).2.1
  obtain ⟨_, k1, k2⟩ := hg 2 (by decide +kernel)
  rw [k1] at hb
  rw [k1, k2] at h1
  cases h2
  exact ⟨hb, _, h1, .inl rfl⟩
 ·rename_i te pe g ro hget
  obtain ⟨v', h1, h2⟩ := (hr.known 2 _ hget).2.2.cellAt (j := 0) (v := .iface te pe) rfl
  have hb := (hr.known 2 _ hget).2.1
  obtain ⟨_, k1, k2⟩ := hg 2 (by decide +kernel)
  rw [k1] at hb
  rw [k1, k2] at h1
  cases h2
  exact ⟨hb, _, h1, .inr ⟨_, _, rfl⟩⟩
 ·cases h

def numK (s : ByteArray) (st : St) : Bool := !(decide (digits s.data.toList ≠ []) && (digits s.data.toList).all dig) || (numA s.data.toList).isSome || hasErr st

theorem strs_rel {μ : Nat → Spot} {n : Nat} : ∀ l : List ByteArray, VRs μ n (l.map Value.string) (l.map Value.string)
 | [] => .nil
 | a :: l => .cons _ _ _ _ (.string a) (strs_rel l)

theorem numVal_rel {μ : Nat → Spot} {n : Nat} (o : Option Int) : VR μ n (numVal o) (numVal o) := by
 cases o with
 | none => exact .tuple _ _ (.cons _ _ _ _ (.int _ _) (.cons _ _ _ _ (.int _ _) .nil))
 | some v => exact .tuple _ _ (.cons _ _ _ _ (.int _ _) (.cons _ _ _ _ (.int _ _) .nil))
theorem quoVal_rel {μ : Nat → Spot} {n : Nat} (p : Nat) (o : Option (List UInt8 × Nat)) : VR μ n (quoVal p o) (quoVal p o) := by
 cases o with
 | none => exact .tuple _ _ (.cons _ _ _ _ (.string _) (.cons _ _ _ _ (.int _ _) .nil))
 | some v => exact .tuple _ _ (.cons _ _ _ _ (.string _) (.cons _ _ _ _ (.int _ _) .nil))

def splitV (s sep : ByteArray) : List Value := (Lib.splitB sep 0 (Lib.countB s sep) s).map Value.string
def joinV (xs : List ByteArray) (sep : ByteArray) : ByteArray := ⟨(Lib.join (xs.map (·.data.toList)) sep.data.toList).toArray⟩
def trimV (s c : ByteArray) : ByteArray := ⟨(Lib.trimS s.data.toList c.data.toList).toArray⟩
def trimRV (s : ByteArray) (c : UInt8) : ByteArray := ⟨(Lib.trimRightB s.data.toList c).toArray⟩
def trimPV (s c : ByteArray) : ByteArray := ⟨(Lib.trimPrefix s.data.toList c.data.toList).toArray⟩
def lowerV (s : ByteArray) : ByteArray := ⟨(Lib.toLowerA s.data.toList).toArray⟩

/-- cells that hold texts -/
def strsOf : List Value → Option (List ByteArray)
 | [] => some []
 | .string a :: l => (strsOf l).map (a :: ·)
 | _ => none
theorem strsOf_eq : ∀ {l : List Value} {xs : List ByteArray}, strsOf l = some xs → l = xs.map Value.string
 | [], xs, h => by simp [strsOf] at h; subst h; rfl
 | v :: l, xs, h => by
  cases v <;> simp [strsOf] at h
  obtain ⟨ys, h1, rfl⟩ := h
  rw [strsOf_eq h1]
  rfl
theorem strsOf_map : ∀ xs : List ByteArray, strsOf (xs.map Value.string) = some xs
 | [] => rfl
 | a :: l => by simp [strsOf, strsOf_map l]

def orc1 : CallF := fun f args st =>
 match args with
 | [.string s, .string c] =>
  if f = 37 then (if s.size < 4294967281 ∧ 1 ≤ c.size ∧ hasMax st = true then .ret (.slice (some ⟨st.next, 0, none⟩) (splitV s c).length (splitV s c).length, st.new (.row (splitV s c) 0 false)) else .fail)
  else if f = 65 then (if s.size < 4294967281 ∧ hasMax st = true then .ret (.int .i64 (Lib.index s.data.toList c.data.toList), st) else .fail)
  else if f = 47 then (if s.size ≤ 4294967280 ∧ c.size < 4294967281 ∧ asciiB c = true then .ret (.string (trimV s c), st) else .fail)
  else if f = 46 then .ret (.string (trimPV s c), st)
  else if f = 97 then (match c with
   | ⟨⟨[x]⟩⟩ => if x.toNat < 128 ∧ s.size ≤ 4294967280 then .ret (.string (trimRV s x), st) else .fail
   | _ => .fail)
  else if f = 99 then (match c with
   | ⟨⟨[x]⟩⟩ => .ret (.int .i64 (Lib.countByte s.data.toList x), st)
   | _ => .fail)
  else if f = 49 then (if s.size < 4294967281 ∧ c.size < 4294967281 ∧ asciiB s = true ∧ asciiB c = true then .ret (.bool (Lib.containsAny s.data.toList c.data.toList), st) else .fail)
  else .fail
 | [.string s] => if f = 90 then (if s.size ≤ 4294967280 ∧ asciiB s = true then .ret (.string (lowerV s), st) else .fail)
  else if f = 24 then (if s.size ≤ 1000000 ∧ numK s st = true then .ret (numVal (numA s.data.toList), st) else .fail)
  else .fail
 | [.string s, .int .i64 a] => if f = 96 then (if 0 ≤ a ∧ a.toNat < s.size ∧ s.size ≤ 1000000 ∧ s.data.toList.all prn = true then .ret (quoVal (a.toNat + 1) (quoR s.data.toList (a.toNat + 1)), st) else .fail) else .fail
 | [.slice none 0 0, .string _] => if f = 42 then .ret (.string .empty, st) else .fail
 | [.slice (some ⟨b, o, none⟩) n c, .string sep] => if f = 42 then (if 0 < n then (match st.cells ⟨b, o, none⟩ n with
   | some l => (match strsOf l with
    | some xs => if xs.length ≤ 140737488355328 ∧ (Lib.join (xs.map (·.data.toList)) sep.data.toList).length ≤ 140737488355328 then .ret (.string (joinV xs sep), st) else .fail
    | none => .fail)
   | none => .fail) else .fail) else .fail
 | [.pointer (some ⟨b, o, none⟩)] => lockO f b o st
 | _ => .fail

set_option maxHeartbeats 1000000 in
theorem orc1_sound : FSound Tryz.prog orc1 := by
 intro f vs s Q h
 unfold orc1 at h
 split at h
 ·rename_i a c
  split at h
  ·rename_i hf
   subst hf
   refine ⟨⟨Tryz.f37, Tryz.func37, by kernel_rfl, by kernel_rfl⟩, ?_⟩
   split at h
   ·rename_i hc
    refine callOk_row (cs := splitV a c) (fun μ n => strs_rel _) (fun B0 W0 μ w args hr hg ha => ?_) h
    rw [ha.str2]
    obtain ⟨m, hm⟩ := max_cell hr hg hc.2.2
    refine (Tryz.strings_Split a c m w hc.1 hm hc.2.1).mono fun e w' ⟨he, hw⟩ => ⟨?_, 9, hw⟩
    rw [he]
    have : (splitV a c).length = Lib.countB a c + 1 := by rw [splitV, List.length_map]; exact Lib.splitB_all c hc.2.1 0 _ a rfl
    rw [this]
   ·exact h.elim
  ·split at h
   ·rename_i hf
    subst hf
    refine ⟨⟨Tryz.f65, Tryz.func65, by kernel_rfl, by kernel_rfl⟩, ?_⟩
    split at h
    ·rename_i hc
     refine callOk_plain (v := .int .i64 (Lib.index a.data.toList c.data.toList)) (fun μ n => .int _ _) (fun B0 W0 μ w args hr hg ha => ?_) h
     rw [ha.str2]
     obtain ⟨m, hm⟩ := max_cell hr hg hc.2
     refine (Tryz.strings_Index a c m w hc.1 hm).mono fun e w' ⟨he, hw⟩ => ⟨he, ?_⟩
     rw [hw]
     exact Below.refl _ _
    ·exact h.elim
   ·split at h
    ·rename_i hf
     subst hf
     refine ⟨⟨Tryz.f47, Tryz.func47, by kernel_rfl, by kernel_rfl⟩, ?_⟩
     split at h
     ·rename_i hc
      refine callOk_plain (v := .string (trimV a c)) (fun μ n => .string _) (fun B0 W0 μ w args hr hg ha => ?_) h
      rw [ha.str2]
      exact (Tryz.strings_Trim a c w (by omega) hc.2.1 (ascii_at hc.2.2)).mono fun e w' ⟨he, hw⟩ => ⟨he, hw⟩
     ·exact h.elim
    ·split at h
     ·rename_i hf
      subst hf
      refine ⟨⟨Tryz.f46, Tryz.func46, by kernel_rfl, by kernel_rfl⟩, ?_⟩
      refine callOk_plain (v := .string (trimPV a c)) (fun μ n => .string _) (fun B0 W0 μ w args hr hg ha => ?_) h
      rw [ha.str2]
      refine (Tryz.strings_TrimPrefix a c w).mono fun e w' ⟨he, hw⟩ => ⟨he, ?_⟩
      rw [hw]
      exact Below.refl _ _
     ·split at h
      ·rename_i hf
       subst hf
       refine ⟨⟨Tryz.f97, Tryz.func97, by kernel_rfl, by kernel_rfl⟩, ?_⟩
       split at h
       ·rename_i x
        split at h
        ·rename_i hc
         refine callOk_plain (v := .string (trimRV a x)) (fun μ n => .string _) (fun B0 W0 μ w args hr hg ha => ?_) h
         rw [ha.str2]
         refine (Tryz.strings_TrimRight_one a x hc.1 w (by omega)).mono fun e w' ⟨he, hw⟩ => ⟨he, ?_⟩
         rw [hw]
         exact Below.refl _ _
        ·exact h.elim
       ·exact h.elim
      ·split at h
       ·rename_i hf
        subst hf
        refine ⟨⟨Tryz.f99, Tryz.func99, by kernel_rfl, by kernel_rfl⟩, ?_⟩
        split at h
        ·rename_i x
         refine callOk_plain (v := .int .i64 (Lib.countByte a.data.toList x)) (fun μ n => .int _ _) (fun B0 W0 μ w args hr hg ha => ?_) h
         rw [ha.str2]
         refine (Tryz.strings_Count_one a x w).mono fun e w' ⟨he, hw⟩ => ⟨he, ?_⟩
         rw [hw]
         exact Below.refl _ _
        ·exact h.elim
       ·split at h
        ·rename_i hf
         subst hf
         refine ⟨⟨Tryz.f49, Tryz.func49, by kernel_rfl, by kernel_rfl⟩, ?_⟩
         split at h
         ·rename_i hc
          refine callOk_plain (v := .bool (Lib.containsAny a.data.toList c.data.toList)) (fun μ n => .bool _) (fun B0 W0 μ w args hr hg ha => ?_) h
          rw [ha.str2]
          exact (Tryz.strings_ContainsAny a c w hc.1 hc.2.1 (ascii_at hc.2.2.1) (ascii_at hc.2.2.2)).mono fun e w' ⟨he, hw⟩ => ⟨he, hw⟩
         ·exact h.elim
        ·exact h.elim
 ·rename_i a
  split at h
  ·rename_i hf
   subst hf
   refine ⟨⟨Tryz.f90, Tryz.func90, by kernel_rfl, by kernel_rfl⟩, ?_⟩
   split at h
   ·rename_i hc
    refine callOk_plain (v := .string (lowerV a)) (fun μ n => .string _) (fun B0 W0 μ w args hr hg ha => ?_) h
    rw [ha.str1]
    exact (Tryz.strings_ToLower_ascii a w (by omega) (ascii_at hc.2)).mono fun e w' ⟨he, hw⟩ => ⟨he, hw⟩
   ·exact h.elim
  ·split at h
   ·rename_i hf
    subst hf
    refine ⟨⟨Tryz.f24, Tryz.func24, by kernel_rfl, by kernel_rfl⟩, ?_⟩
    split at h
    ·rename_i hc
     refine callOk_plain (v := numVal (numA a.data.toList)) (fun μ n => numVal_rel _) (fun B0 W0 μ w args hr hg ha => ?_) h
     rw [ha.str1]
     obtain ⟨hsz, hk⟩ := hc
     unfold numK at hk
     rw [Bool.or_eq_true, Bool.or_eq_true] at hk
     rcases hk with (hk | hk) | hk
     ·exact number_nodig a w hsz (by rw [Bool.not_eq_true'] at hk; exact hk)
     ·obtain ⟨v, hv⟩ := Option.isSome_iff_exists.1 hk
      rw [hv]
      exact number_some a w hsz v hv
     ·obtain ⟨h1, ev, h2, h3⟩ := err_cell hr hg hk
      exact number_walk a w hsz h1 ev h2 h3
    ·exact h.elim
   ·exact h.elim
 ·rename_i a i
  split at h
  ·rename_i hf
   subst hf
   refine ⟨⟨Tryz.f96, Tryz.func96, by kernel_rfl, by kernel_rfl⟩, ?_⟩
   split at h
   ·rename_i hc
    refine callOk_plain (v := quoVal (i.toNat + 1) (quoR a.data.toList (i.toNat + 1))) (fun μ n => quoVal_rel _ _) (fun B0 W0 μ w args hr hg ha => ?_) h
    obtain ⟨c1, c2, c3, c4⟩ := hc
    have hi : i = (i.toNat : Int) := by omega
    cases ha with
    | cons _ _ _ _ h1 h2 =>
     cases h2 with
     | cons _ _ _ _ h3 h4 =>
      cases h4
      cases h3
      cases h1
      have := quoted_walk a i.toNat w c3 c2 (fun j hj => by
       rw [List.all_eq_true] at c4
       exact c4 _ (Array.mem_def.1 (Array.getElem_mem (xs := a.data) hj)))
      rw [← hi] at this
      exact this
   ·exact h.elim
  ·exact h.elim
 ·rename_i sep
  split at h
  ·rename_i hf
   subst hf
   refine ⟨⟨Tryz.f42, Tryz.func42, by kernel_rfl, by kernel_rfl⟩, ?_⟩
   refine callOk_plain (v := .string .empty) (fun μ n => .string _) (fun B0 W0 μ w args hr hg ha => ?_) h
   cases ha with
   | cons _ _ _ _ h1 h2 =>
    cases h2 with
    | cons _ _ _ _ h3 h4 =>
     cases h4
     cases h3
     cases h1
     refine (Tryz.strings_Join_none none 0 sep w).mono fun e w' ⟨he, hw⟩ => ⟨he, ?_⟩
     rw [hw]
     exact Below.refl _ _
  ·exact h.elim
 ·rename_i b o n c sep
  split at h
  ·rename_i hf
   subst hf
   refine ⟨⟨Tryz.f42, Tryz.func42, by kernel_rfl, by kernel_rfl⟩, ?_⟩
   split at h
   ·rename_i hn
    split at h
    ·rename_i l hl
     split at h
     ·rename_i xs hxs
      split at h
      ·rename_i hc
       have hlx := strsOf_eq hxs
       refine callOk_plain (v := .string (joinV xs sep)) (fun μ n => .string _) (fun B0 W0 μ w args hr hg ha => ?_) h
       unfold St.cells at hl
       split at hl
       ·rename_i cs g ro hget
        split at hl
        ·rename_i hle
         injection hl with hl
         obtain ⟨i1, i2, i3⟩ := hr.known b _ hget
         simp only at hle hl
         have hln : xs.length = n := by
          have := congrArg List.length hl
          rw [hlx, List.length_map, List.length_take, List.length_drop] at this
          omega
         cases ha with
         | cons _ _ _ _ h1 h2 =>
          cases h2 with
          | cons _ _ _ _ h3 h4 =>
           cases h4
           cases h3
           cases h1 with
           | slice _ _ o' _ _ cap' q0 q1 q2 q3 q4 q5 q6 =>
            have hoff : o' = (μ b).base + o := q4 (.inl (Nat.lt_of_lt_of_le hn q1))
            subst hoff
            rw [← hln]
            refine (Tryz.strings_Join (μ b).block ((μ b).base + o) cap' xs sep w (fun j x hj => ?_) i2 hc.1 (by rw [hln]; exact Nat.le_trans q1 q2) hc.2).mono fun e w' ⟨he, hw⟩ => ⟨he, hw⟩
            have hcj : cs[o + j]? = some (.string x) := by
             have hjl : j < n := by rw [← hln]; exact (List.getElem?_eq_some_iff.1 hj).1
             have : ((cs.drop o).take n)[j]? = some (.string x) := by rw [hl, hlx, List.getElem?_map, hj]; rfl
             rw [List.getElem?_take_of_lt hjl, List.getElem?_drop] at this
             exact this
            obtain ⟨v', j1, j2⟩ := i3.cellAt hcj
            cases j2
            rw [Nat.add_assoc]
            exact j1
        ·cases hl
       ·cases hl
      ·exact h.elim
     ·exact h.elim
    ·exact h.elim
   ·exact h.elim
  ·exact h.elim
 ·exact lockO_sound h
 ·exact h.elim

/-- the one method that is called through an interface; the one deferred call whose text is not at hand -/
def T0 : Tab := { meth := fun t name => if name = "Replace" then (if t = 211 then some 225 else none) else none, dfr := dfrO }
theorem T0_ok : TabOk Tryz.prog T0 := fun t name f h => by
 simp only [T0] at h
 split at h
 ·rename_i hn
  subst hn
  split at h
  ·rename_i ht; subst ht; cases h; exact fun v w => rfl
  ·cases h
 ·cases h
theorem T0_dfr : DSound Tryz.prog T0.dfr := dfrO_sound

/-- 'awake' holds, whatever there is -/
theorem awake_calls (w : World) (m : Int) (hm : w.cell? ⟨0, 0, none⟩ = some (.int .i64 m)) (h0 : 0 < w.heap.size) : Calls Tryz.prog 15 #[] w fun e w' => e = .returned (.bool true) ∧ Below w.heap.size w w' :=
 calls_closed (callO_sound (P := Tryz.prog) (by kernel_rfl) T0_ok orc1_sound (lookFn_ok (t := (15, g15) :: tbl) ⟨g15_ok, fns_ok⟩) 1000 20 T0_dfr) (m := m) (by decide +kernel) (by kernel_rfl) w hm h0

def orc : CallF := fun f args st =>
 if f = 15 then (match args with
  | [] => if hasMax st = true then .ret (.bool true, st) else .fail
  | _ => .fail)
 else orc1 f args st

theorem orc_sound : FSound Tryz.prog orc := by
 intro f vs s Q h
 unfold orc at h
 split at h
 ·rename_i hf
  subst hf
  split at h
  ·refine ⟨⟨Tryz.f15, Tryz.func15, by kernel_rfl, by kernel_rfl⟩, ?_⟩
   split at h
   ·rename_i hc
    refine callOk_plain (v := .bool true) (fun μ n => .bool _) (fun B0 W0 μ w args hr hg ha => ?_) h
    cases ha
    obtain ⟨m, hm⟩ := max_cell hr hg hc
    have h0 : 0 < w.heap.size := by
     unfold hasMax at hc
     split at hc
     ·rename_i m' g ro hget
      have := (hr.known 0 _ hget).2.1
      omega
     ·cases hc
    exact awake_calls w m hm h0
   ·exact h.elim
  ·exact h.elim
 ·exact orc1_sound f vs s Q h
end Go.Proofs.YtdmemibnphcedaaGreatDoor
