/-
  What the library's functions come to that are taken by their contracts: strings.Split, Index, IndexByte, IndexAny, Cut, Trim, TrimRight, TrimPrefix, ToLower; args.quoted.
-/
import Derived.Test.YtjomiadmminhfaaGreatDoorSFilClaimPart10
import Derived.Test.YtjomiadmminhfaaGreatDoorSFilClaimPart11
import Derived.Test.YtjomiadmminhfaaGreatDoorSFilClaimPart12
import Derived.Test.YtjomiadmminhfaaGreatDoorSFilClaimPart15
set_option linter.unusedSimpArgs false
set_option linter.unusedVariables false
set_option maxRecDepth 10000
namespace Go.Am
section
variable {P : Program} {s : St}
/-- a call that is known to give a new row of plain values, and to leave the blocks that there were -/
theorem callOk_row {f : FuncId} {vs : List Value} {cs : List Value} (hcs : ∀ (μ : Nat → Spot) (n : Nat), VRs μ n cs cs)
  (h : ∀ (B0 : Nat) (W0 : World) (μ : Nat → Spot) (w : World) (args : List Value), Rel B0 W0 μ s w → Glob P μ s.next → VRs μ s.next vs args → Calls P f args.toArray w fun e w' => e = .returned (.slice (some ⟨w.heap.size, 0, none⟩) cs.length cs.length) ∧ ∃ t, w' = w.alloc (.cells cs.toArray t))
  {Q : Value × St → Prop} (hq : Q (.slice (some ⟨s.next, 0, none⟩) cs.length cs.length, s.new (.row cs 0 false))) : CallOk P f vs s Q := by
 intro B0 W0 μ w args hr hg ha
 refine (h B0 W0 μ w args hr hg ha).mono fun e w' ⟨he, t, hw⟩ => ?_
 subst hw
 refine ⟨_, _, _, hq, he, upd μ s.next ⟨w.heap.size, 0, cs.toArray.size, 0⟩, upd_agree _ _, hr.newRow cs 0 cs.toArray t (0, 0) (fun j v hj => ?_) (by simp) (fun x _ => by simp), ?_⟩
 ·obtain ⟨v', h1, h2⟩ := (hcs μ s.next).get hj
  exact ⟨v', by simpa using h1, h2⟩
 ·have := VR.slice (μ := upd μ s.next ⟨w.heap.size, 0, cs.toArray.size, 0⟩) (n := s.next + 1) s.next 0 0 cs.length cs.length cs.length (by omega) (Nat.le_refl _) (Nat.le_refl _) (fun _ => rfl) (fun _ => by simp [upd_same]) (by simp [upd_same]) (fun hh => by simp [upd_same] at hh)
  simpa [upd_same] using this
end
end Go.Am
namespace Go.Proofs.YtjomiadmminhfaaGreatDoor
open Go.Am
open Go.RowKit (Below)

/-- the begin: the variable 0 (bytealg.MaxLen) holds some int -/
def hasMax (s : St) : Bool :=
 match s.get 0 with
 | some (.row [.int .i64 _] _ _) => true
 | _ => false

def asciiB (c : ByteArray) : Bool := c.data.toList.all fun b => decide (b.toNat < 128)

theorem ascii_at {c : ByteArray} (h : asciiB c = true) (j : Nat) (b : UInt8) (hj : c.data.toList[j]? = some b) : b.toNat < 128 := of_decide_eq_true (List.all_eq_true.1 h b (List.mem_of_getElem? hj))

theorem max_cell {B0 : Nat} {W0 : World} {μ : Nat → Spot} {s : St} {w : World} (hr : Rel B0 W0 μ s w) (hg : Glob Tryz.prog μ s.next) (h : hasMax s = true) : ∃ m, w.cell? ⟨0, 0, none⟩ = some (.int .i64 m) := by
 unfold hasMax at h
 split at h
 ·rename_i m g ro hget
  obtain ⟨v', h1, h2⟩ := (hr.known 0 _ hget).2.2.cellAt (j := 0) (v := .int .i64 m) rfl
  obtain ⟨_, k1, k2⟩ := hg 0 (by decide +kernel)
  rw [k1, k2] at h1
  cases h2
  exact ⟨m, h1⟩
 ·cases h

theorem strs_rel {μ : Nat → Spot} {n : Nat} : ∀ l : List ByteArray, VRs μ n (l.map Value.string) (l.map Value.string)
 | [] => .nil
 | a :: l => .cons _ _ _ _ (.string a) (strs_rel l)

theorem quoVal_rel {μ : Nat → Spot} {n : Nat} (p : Nat) (o : Option (List UInt8 × Nat)) : VR μ n (quoVal p o) (quoVal p o) := by
 cases o with
 | none => exact .tuple _ _ (.cons _ _ _ _ (.string _) (.cons _ _ _ _ (.int _ _) .nil))
 | some v => exact .tuple _ _ (.cons _ _ _ _ (.string _) (.cons _ _ _ _ (.int _ _) .nil))

def splitV (s sep : ByteArray) : List Value := (Lib.splitB sep 0 (Lib.countB s sep) s).map Value.string
def trimV (s c : ByteArray) : ByteArray := ⟨(Lib.trimS s.data.toList c.data.toList).toArray⟩
def trimRV (s : ByteArray) (c : UInt8) : ByteArray := ⟨(Lib.trimRightB s.data.toList c).toArray⟩
def trimPV (s c : ByteArray) : ByteArray := ⟨(Lib.trimPrefix s.data.toList c.data.toList).toArray⟩
def lowerV (s : ByteArray) : ByteArray := ⟨(Lib.toLowerA s.data.toList).toArray⟩

def cutV (s c : ByteArray) : Value := .tuple #[.string ⟨(Lib.cut s.data.toList c.data.toList).1.toArray⟩, .string ⟨(Lib.cut s.data.toList c.data.toList).2.1.toArray⟩, .bool (Lib.cut s.data.toList c.data.toList).2.2]
theorem cutV_rel {μ : Nat → Spot} {n : Nat} (s c : ByteArray) : VR μ n (cutV s c) (cutV s c) := .tuple _ _ (.cons _ _ _ _ (.string _) (.cons _ _ _ _ (.string _) (.cons _ _ _ _ (.bool _) .nil)))

theorem below_iter (w : World) (s : ByteArray) (p : Nat) : Below w.heap.size w (w.iter s p) := (Below.refl _ w).alloc (Nat.le_refl _) _

def orc1 : CallF := fun f args st =>
 match args with
 | [.string s, .string c] =>
  if f = 207 then (if s.size < 4294967281 ∧ 1 ≤ c.size ∧ hasMax st = true then .ret (.slice (some ⟨st.next, 0, none⟩) (splitV s c).length (splitV s c).length, st.new (.row (splitV s c) 0 false)) else .fail)
  else if f = 144 then (if s.size < 4294967281 ∧ hasMax st = true then .ret (.int .i64 (Lib.index s.data.toList c.data.toList), st) else .fail)
  else if f = 53 then (if s.size < 4294967281 ∧ hasMax st = true then .ret (cutV s c, st) else .fail)
  else if f = 148 then (if 2 ≤ c.size ∧ s.size ≤ 8 ∧ asciiB s = true then .ret (.int .i64 (Lib.indexAny s.data.toList c.data.toList), st) else .fail)
  else if f = 15 then (if s.size ≤ 4294967280 ∧ c.size < 4294967281 ∧ asciiB c = true then .ret (.string (trimV s c), st) else .fail)
  else if f = 247 then .ret (.string (trimPV s c), st)
  else if f = 234 then (match c with
   | ⟨⟨[x]⟩⟩ => if x.toNat < 128 ∧ s.size ≤ 4294967280 then .ret (.string (trimRV s x), st) else .fail
   | _ => .fail)
  else .fail
 | [.string s, .int .u8 c] => if f = 25 then .ret (.int .i64 (Lib.indexByte s.data.toList c.toNat.toUInt8), st) else .fail
 | [.string s] => if f = 229 then (if s.size ≤ 4294967280 ∧ asciiB s = true then .ret (.string (lowerV s), st) else .fail)
  else .fail
 | [.string s, .int .i64 a] => if f = 116 then (if 0 ≤ a ∧ a.toNat < s.size ∧ s.size ≤ 1000000 ∧ s.data.toList.all prn = true then .ret (quoVal (a.toNat + 1) (quoR s.data.toList (a.toNat + 1)), st) else .fail) else .fail
 | _ => .fail

theorem strI_args {μ : Nat → Spot} {n : Nat} {s : ByteArray} {k : IntKind} {i : Int} {args : List Value} (h : VRs μ n [.string s, .int k i] args) : args = [.string s, .int k i] := by
 cases h with
 | cons _ _ _ _ h1 h2 =>
  cases h2 with
  | cons _ _ _ _ h3 h4 =>
   cases h4
   cases h3
   cases h1
   rfl

set_option maxHeartbeats 1000000 in
theorem orc1_sound : FSound Tryz.prog orc1 := by
 intro f vs s Q h
 unfold orc1 at h
 split at h
 ·rename_i a c
  split at h
  ·rename_i hf
   subst hf
   refine ⟨⟨Tryz.f207, Tryz.func207, by kernel_rfl, by kernel_rfl⟩, ?_⟩
   split at h
   ·rename_i hc
    refine callOk_row (cs := splitV a c) (fun μ n => strs_rel _) (fun B0 W0 μ w args hr hg ha => ?_) h
    rw [ha.str2]
    obtain ⟨m, hm⟩ := max_cell hr hg hc.2.2
    refine (Tryz.strings_Split a c m w hc.1 hm hc.2.1).mono fun e w' ⟨he, hw⟩ => ⟨?_, 9, hw⟩
    rw [he]
    have : (splitV a c).length = Lib.countB a c + 1 := by rw [splitV, List.length_map]; exact Lib.splitB_all c hc.2.1 0 _ a rfl
    rw [this]
   ·exact h.elim
  ·split at h
   ·rename_i hf
    subst hf
    refine ⟨⟨Tryz.f144, Tryz.func144, by kernel_rfl, by kernel_rfl⟩, ?_⟩
    split at h
    ·rename_i hc
     refine callOk_plain (v := .int .i64 (Lib.index a.data.toList c.data.toList)) (fun μ n => .int _ _) (fun B0 W0 μ w args hr hg ha => ?_) h
     rw [ha.str2]
     obtain ⟨m, hm⟩ := max_cell hr hg hc.2
     refine (Tryz.strings_Index a c m w hc.1 hm).mono fun e w' ⟨he, hw⟩ => ⟨he, ?_⟩
     rw [hw]
     exact Below.refl _ _
    ·exact h.elim
   ·split at h
    ·rename_i hf
     subst hf
     refine ⟨⟨Tryz.f53, Tryz.func53, by kernel_rfl, by kernel_rfl⟩, ?_⟩
     split at h
     ·rename_i hc
      refine callOk_plain (v := cutV a c) (fun μ n => cutV_rel _ _) (fun B0 W0 μ w args hr hg ha => ?_) h
      rw [ha.str2]
      obtain ⟨m, hm⟩ := max_cell hr hg hc.2
      refine (Tryz.strings_Cut a c m w hc.1 hm).mono fun e w' ⟨he, n, hw⟩ => ⟨he, ?_⟩
      rw [hw]
      exact Go.RowKit.Below.trans (Below.refl _ _) ⟨rfl, rfl, rfl, Nat.le_refl _, fun _ _ => rfl⟩
     ·exact h.elim
    ·split at h
     ·rename_i hf
      subst hf
      refine ⟨⟨Tryz.f148, Tryz.func148, by kernel_rfl, by kernel_rfl⟩, ?_⟩
      split at h
      ·rename_i hc
       refine callOk_plain (v := .int .i64 (Lib.indexAny a.data.toList c.data.toList)) (fun μ n => .int _ _) (fun B0 W0 μ w args hr hg ha => ?_) h
       rw [ha.str2]
       refine (Tryz.strings_IndexAny_short a c w hc.1 hc.2.1 (ascii_at hc.2.2)).mono fun e w' ⟨he, p, hw⟩ => ⟨he, ?_⟩
       rw [hw]
       exact below_iter w a p
      ·exact h.elim
     ·split at h
      ·rename_i hf
       subst hf
       refine ⟨⟨Tryz.f15, Tryz.func15, by kernel_rfl, by kernel_rfl⟩, ?_⟩
       split at h
       ·rename_i hc
        refine callOk_plain (v := .string (trimV a c)) (fun μ n => .string _) (fun B0 W0 μ w args hr hg ha => ?_) h
        rw [ha.str2]
        exact (Tryz.strings_Trim a c w (by omega) hc.2.1 (ascii_at hc.2.2)).mono fun e w' ⟨he, hw⟩ => ⟨he, hw⟩
       ·exact h.elim
      ·split at h
       ·rename_i hf
        subst hf
        refine ⟨⟨Tryz.f247, Tryz.func247, by kernel_rfl, by kernel_rfl⟩, ?_⟩
        refine callOk_plain (v := .string (trimPV a c)) (fun μ n => .string _) (fun B0 W0 μ w args hr hg ha => ?_) h
        rw [ha.str2]
        refine (Tryz.strings_TrimPrefix a c w).mono fun e w' ⟨he, hw⟩ => ⟨he, ?_⟩
        rw [hw]
        exact Below.refl _ _
       ·split at h
        ·rename_i hf
         subst hf
         refine ⟨⟨Tryz.f234, Tryz.func234, by kernel_rfl, by kernel_rfl⟩, ?_⟩
         split at h
         ·rename_i x
          split at h
          ·rename_i hc
           refine callOk_plain (v := .string (trimRV a x)) (fun μ n => .string _) (fun B0 W0 μ w args hr hg ha => ?_) h
           rw [ha.str2]
           refine (Tryz.strings_TrimRight_one a x hc.1 w (by omega)).mono fun e w' ⟨he, hw⟩ => ⟨he, ?_⟩
           rw [hw]
           exact Below.refl _ _
          ·exact h.elim
         ·exact h.elim
        ·exact h.elim
 ·rename_i a c
  split at h
  ·rename_i hf
   subst hf
   refine ⟨⟨Tryz.f25, Tryz.func25, by kernel_rfl, by kernel_rfl⟩, ?_⟩
   refine callOk_plain (v := .int .i64 (Lib.indexByte a.data.toList c.toNat.toUInt8)) (fun μ n => .int _ _) (fun B0 W0 μ w args hr hg ha => ?_) h
   rw [strI_args ha]
   refine (Tryz.strings_IndexByte a c w).mono fun e w' ⟨he, hw⟩ => ⟨he, ?_⟩
   rw [hw]
   exact Below.refl _ _
  ·exact h.elim
 ·rename_i a
  split at h
  ·rename_i hf
   subst hf
   refine ⟨⟨Tryz.f229, Tryz.func229, by kernel_rfl, by kernel_rfl⟩, ?_⟩
   split at h
   ·rename_i hc
    refine callOk_plain (v := .string (lowerV a)) (fun μ n => .string _) (fun B0 W0 μ w args hr hg ha => ?_) h
    rw [ha.str1]
    exact (Tryz.strings_ToLower_ascii a w (by omega) (ascii_at hc.2)).mono fun e w' ⟨he, hw⟩ => ⟨he, hw⟩
   ·exact h.elim
  ·exact h.elim
 ·rename_i a i
  split at h
  ·rename_i hf
   subst hf
   refine ⟨⟨Tryz.f116, Tryz.func116, by kernel_rfl, by kernel_rfl⟩, ?_⟩
   split at h
   ·rename_i hc
    refine callOk_plain (v := quoVal (i.toNat + 1) (quoR a.data.toList (i.toNat + 1))) (fun μ n => quoVal_rel _ _) (fun B0 W0 μ w args hr hg ha => ?_) h
    obtain ⟨c1, c2, c3, c4⟩ := hc
    have hi : i = (i.toNat : Int) := by omega
    rw [strI_args ha]
    have := quoted_walk a i.toNat w c3 c2 (fun j hj => by
     rw [List.all_eq_true] at c4
     exact c4 _ (Array.mem_def.1 (Array.getElem_mem (xs := a.data) hj)))
    rw [← hi] at this
    exact this
   ·exact h.elim
  ·exact h.elim
 ·exact h.elim

/-- what handles do when they are closed -/
def T0 : Tab := { meth := fun t name => if name = "bluebell/stream.close" then (if t = 117 then some 297 else if t = 127 then some 299 else none) else none, dfr := fun _ _ _ => .fail }
theorem T0_ok : TabOk Tryz.prog T0 := fun t name f h => by
 simp only [T0] at h
 split at h
 ·rename_i hn
  subst hn
  split at h
  ·rename_i ht; subst ht; cases h; exact fun v w => rfl
  ·split at h
   ·rename_i ht; subst ht; cases h; exact fun v w => rfl
   ·cases h
 ·cases h
theorem T0_dfr : DSound Tryz.prog T0.dfr := fun _ _ _ _ h => h.elim

def orc : CallF := fun f args st => orc1 f args st
theorem orc_sound : FSound Tryz.prog orc := orc1_sound
end Go.Proofs.YtjomiadmminhfaaGreatDoor
