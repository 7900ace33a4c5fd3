/-
  What the library's functions come to that are taken by their contracts: strings.Cut, strings.Trim, strings.Contains.
-/
import Derived.Test.YtocofoiijfofaaaGreatDoorAmBytes
import Derived.Test.YtocofoiijfofaaaGreatDoorZIterI
import Derived.Test.YtocofoiijfofaaaGreatDoorZFns
import Derived.Test.YtocofoiijfofaaaGreatDoorZShelfPlain
set_option linter.unusedSimpArgs false
set_option linter.unusedVariables false
set_option maxRecDepth 10000
namespace Go.Proofs.YtocofoiijfofaaaGreatDoor
open Go.Am
open Go.RowKit (Below)

/-- the begin: the variable 0 (bytealg.MaxLen) holds some int -/
def hasMax (s : St) : Bool :=
  match s.get 0 with
  | some (.row [.int .i64 _] _ _) => true
  | _ => false

def asciiB (c : ByteArray) : Bool := c.data.toList.all fun b => decide (b.toNat < 128)

def trimB (s c : ByteArray) : ByteArray := ⟨(Lib.trimS s.data.toList c.data.toList).toArray⟩
def cutV (s c : ByteArray) : Value := .tuple #[.string ⟨(Lib.cut s.data.toList c.data.toList).1.toArray⟩, .string ⟨(Lib.cut s.data.toList c.data.toList).2.1.toArray⟩, .bool (Lib.cut s.data.toList c.data.toList).2.2]
def containsB (s c : ByteArray) : Bool := Lib.contains s.data.toList c.data.toList

def prefixB (s c : ByteArray) : Bool := Lib.hasPrefix s.data.toList c.data.toList
def suffixB (s c : ByteArray) : Bool := Lib.hasSuffix s.data.toList c.data.toList

def orc0 : CallF := fun f args st =>
  match args with
  | [.string s, .string c] =>
    if f = 61 then (if s.size < 4294967281 ∧ hasMax st = true then .ret (cutV s c, st) else .fail)
    else if f = 62 then (if s.size ≤ 4294967280 ∧ c.size < 4294967281 ∧ asciiB c = true then .ret (.string (trimB s c), st) else .fail)
    else if f = 64 then (if s.size < 4294967281 ∧ hasMax st = true then .ret (.bool (containsB s c), st) else .fail)
    else if f = 29 then .ret (.bool (prefixB s c), st)
    else if f = 63 then (if s.size ≤ 4294967280 then .ret (.bool (suffixB s c), st) else .fail)
    else .fail
  | _ => .fail

theorem max_cell {B0 : Nat} {W0 : World} {μ : Nat → Spot} {s : St} {w : World} (hr : Rel B0 W0 μ s w) (hg : Glob Tryz.prog μ s.next) (h : hasMax s = true) : ∃ m, w.cell? ⟨0, 0, none⟩ = some (.int .i64 m) := by
  unfold hasMax at h
  split at h
  · rename_i m g ro hget
    obtain ⟨v', h1, h2⟩ := (hr.known 0 _ hget).2.2.cellAt (j := 0) (v := .int .i64 m) rfl
    obtain ⟨_, k1, k2⟩ := hg 0 (by decide +kernel)
    rw [k1, k2] at h1
    cases h2
    exact ⟨m, h1⟩
  · cases h

theorem below_drew (w : World) : ∀ n, Below w.heap.size w (w.drewN n) := fun n => ⟨rfl, rfl, rfl, Nat.le_refl _, fun _ _ => rfl⟩

theorem orc0_sound : FSound Tryz.prog orc0 := by
  intro f vs s Q h
  unfold orc0 at h
  split at h
  · rename_i a c
    split at h
    · rename_i hf
      subst hf
      refine ⟨⟨Tryz.f61, Tryz.func61, by kernel_rfl, by kernel_rfl⟩, ?_⟩
      split at h
      · rename_i hc
        refine callOk_plain (v := cutV a c) (fun μ n => .tuple _ _ (.cons _ _ _ _ (.string _) (.cons _ _ _ _ (.string _) (.cons _ _ _ _ (.bool _) .nil)))) (fun B0 W0 μ w args hr hg ha => ?_) h
        rw [ha.str2]
        obtain ⟨m, hm⟩ := max_cell hr hg hc.2
        refine (Tryz.strings_Cut a c m w hc.1 hm).mono fun e w' ⟨he, n, hw⟩ => ⟨he, ?_⟩
        rw [hw]
        exact below_drew w n
      · exact h.elim
    · split at h
      · rename_i hf
        subst hf
        refine ⟨⟨Tryz.f62, Tryz.func62, by kernel_rfl, by kernel_rfl⟩, ?_⟩
        split at h
        · rename_i hc
          refine callOk_plain (v := .string (trimB a c)) (fun μ n => .string _) (fun B0 W0 μ w args hr hg ha => ?_) h
          rw [ha.str2]
          refine (Tryz.strings_Trim a c w (by omega) hc.2.1 (fun j b hj => ?_)).mono fun e w' ⟨he, hw⟩ => ⟨he, hw⟩
          have := List.all_eq_true.1 hc.2.2 b (List.mem_of_getElem? hj)
          exact of_decide_eq_true this
        · exact h.elim
      · split at h
        · rename_i hf
          subst hf
          refine ⟨⟨Tryz.f64, Tryz.func64, by kernel_rfl, by kernel_rfl⟩, ?_⟩
          split at h
          · rename_i hc
            refine callOk_plain (v := .bool (containsB a c)) (fun μ n => .bool _) (fun B0 W0 μ w args hr hg ha => ?_) h
            rw [ha.str2]
            obtain ⟨m, hm⟩ := max_cell hr hg hc.2
            refine (Tryz.strings_Contains a c m w hc.1 hm).mono fun e w' ⟨he, hw⟩ => ⟨he, ?_⟩
            rw [hw]
            exact Below.refl _ _
          · exact h.elim
        · split at h
          · rename_i hf
            subst hf
            refine ⟨⟨Tryz.f29, Tryz.func29, by kernel_rfl, by kernel_rfl⟩, ?_⟩
            refine callOk_plain (v := .bool (prefixB a c)) (fun μ n => .bool _) (fun B0 W0 μ w args hr hg ha => ?_) h
            rw [ha.str2]
            refine (Tryz.strings_HasPrefix a c w).mono fun e w' ⟨he, hw⟩ => ⟨he, ?_⟩
            rw [hw]
            exact Below.refl _ _
          · split at h
            · rename_i hf
              subst hf
              refine ⟨⟨Tryz.f63, Tryz.func63, by kernel_rfl, by kernel_rfl⟩, ?_⟩
              split at h
              · rename_i hc
                refine callOk_plain (v := .bool (suffixB a c)) (fun μ n => .bool _) (fun B0 W0 μ w args hr hg ha => ?_) h
                rw [ha.str2]
                refine (Tryz.strings_HasSuffix a c w (by omega)).mono fun e w' ⟨he, hw⟩ => ⟨he, ?_⟩
                rw [hw]
                exact Below.refl _ _
              · exact h.elim
            · exact h.elim
  · exact h.elim

/-- the methods that are called through an interface -/
def T0 : Tab := ⟨fun t name => if name = "bluebell/stream.close" then
    (if t = 76 then some 174
     else if t = 84 then some 175
     else if t = 86 then some 176
     else if t = 117 then some 177 else none) else none⟩
set_option maxRecDepth 100000 in
theorem T0_ok : TabOk Tryz.prog T0 := fun t name f h => by
  simp only [T0] at h
  split at h
  · rename_i hn
    subst hn
    split at h
    · rename_i ht; subst ht; cases h; exact fun v w => rfl
    · split at h
      · rename_i ht; subst ht; cases h; exact fun v w => rfl
      · split at h
        · rename_i ht; subst ht; cases h; exact fun v w => rfl
        · split at h
          · rename_i ht; subst ht; cases h; exact fun v w => rfl
          · cases h
  · cases h

/-- 'awake' holds, whatever there is -/
theorem awake_calls (w : World) (m : Int) (hm : w.cell? ⟨0, 0, none⟩ = some (.int .i64 m)) (h0 : 0 < w.heap.size) : Calls Tryz.prog 6 #[] w fun e w' => e = .returned (.bool true) ∧ Below w.heap.size w w' :=
  calls_closed (callO_sound (P := Tryz.prog) (by kernel_rfl) T0_ok orc0_sound (lookFn_ok (t := (6, g6) :: tbl) ⟨g6_ok, fns_ok⟩) 1000 20) (m := m) (by decide +kernel) (by kernel_rfl) w hm h0

/-- a block that holds an empty map -/
def emptyAt (st : St) (c : Nat) : Bool :=
  match st.get c with
  | some (.row [.map (some q)] 0 false) => (match st.get q with
    | some (.map [] _) => true
    | _ => false)
  | _ => false

/-- slices.Sorted at maps.Keys of an empty map -/
def orcS : List Value → St → Out (Value × St) := fun args st =>
  match args with
  | [.func (.func g) x y] => (match x.toList, y.toList with
    | [], [.pointer (some ⟨c, 0, none⟩)] => if g = 70 ∧ emptyAt st c = true then .ret (.slice none 0 0, st) else .fail
    | _, _ => .fail)
  | _ => .fail

theorem orcS_sound {s : St} {vs : List Value} {Q : Value × St → Prop} (h : (orcS vs s).all Q) : CallOk Tryz.prog 43 vs s Q := by
  unfold orcS at h
  split at h
  · rename_i g x y
    split at h
    · rename_i c hx hy
      split at h
      · rename_i hc
        obtain ⟨rfl, he⟩ := hc
        refine callOk_plain (v := .slice none 0 0) (fun μ n => .nilSlice) (fun B0 W0 μ w args hr hg ha => ?_) h
        have hargs : args = [.func (.func 70) #[] #[.pointer (some ⟨(μ c).block, (μ c).base + 0, none⟩)]] := by
          cases ha with
          | cons _ _ _ _ h1 h2 =>
            cases h2
            cases h1 with
            | func _ _ _ x' y' k1 k2 =>
              rw [hx] at k1
              rw [hy] at k2
              have e1 : x' = #[] := by
                obtain ⟨l⟩ := x'
                cases k1
                rfl
              have e2 : y' = #[.pointer (some ⟨(μ c).block, (μ c).base + 0, none⟩)] := by
                obtain ⟨l⟩ := y'
                cases k2 with
                | cons _ _ _ _ j1 j2 => cases j1; cases j2; rfl
              rw [e1, e2]
        rw [hargs]
        unfold emptyAt at he
        split at he
        · rename_i q hget
          split at he
          · rename_i clock hq
            obtain ⟨i1, i2, i3⟩ := hr.known c _ hget
            have hb : (μ c).base = 0 := (i3.2.2.2.2 rfl).2.2 rfl
            obtain ⟨v', j1, j2⟩ := i3.cellAt (j := 0) (v := .map (some q)) rfl
            rw [hb] at j1 ⊢
            cases j2 with
            | map _ _ =>
              obtain ⟨_, _, _, es', k1, k2⟩ := hr.known q _ hq
              have : es' = #[] := by
                obtain ⟨l⟩ := es'
                cases l with
                | nil => rfl
                | cons a l => exact k2.elim
              subst this
              exact Tryz.sortedKeys0 _ _ _ w i2 j1 k1
          · cases he
        · cases he
      · exact h.elim
    · exact h.elim
  · exact h.elim

def orc : CallF := fun f args st =>
  if f = 6 then (match args with
    | [] => if hasMax st = true then .ret (.bool true, st) else .fail
    | _ => .fail)
  else if f = 43 then orcS args st
  else orc0 f args st

theorem orc_sound : FSound Tryz.prog orc := by
  intro f vs s Q h
  unfold orc at h
  split at h
  · rename_i hf
    subst hf
    split at h
    · refine ⟨⟨Tryz.f6, Tryz.func6, by kernel_rfl, by kernel_rfl⟩, ?_⟩
      split at h
      · rename_i hc
        refine callOk_plain (v := .bool true) (fun μ n => .bool _) (fun B0 W0 μ w args hr hg ha => ?_) h
        cases ha
        obtain ⟨m, hm⟩ := max_cell hr hg hc
        have h0 : 0 < w.heap.size := by
          unfold hasMax at hc
          split at hc
          · rename_i m' g ro hget
            have := (hr.known 0 _ hget).2.1
            omega
          · cases hc
        exact awake_calls w m hm h0
      · exact h.elim
    · exact h.elim
  · split at h
    · rename_i hf
      subst hf
      exact ⟨⟨Tryz.f43, Tryz.func43, by kernel_rfl, by kernel_rfl⟩, orcS_sound h⟩
    · exact orc0_sound f vs s Q h
end Go.Proofs.YtocofoiijfofaaaGreatDoor
