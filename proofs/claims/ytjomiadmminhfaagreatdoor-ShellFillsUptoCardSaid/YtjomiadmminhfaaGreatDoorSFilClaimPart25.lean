/-
  The words of a line, in plain words; what the program's next and readable come to where nothing else is known.
-/
import Derived.Test.YtjomiadmminhfaaGreatDoorSFilClaimPart22
set_option linter.unusedSimpArgs false
set_option linter.unusedVariables false
set_option maxRecDepth 10000
set_option linter.unusedSectionVars false
namespace Go.Proofs.YtjomiadmminhfaaGreatDoor
open Go.Am
open Go.RowKit (Below)

/-- the words from a place on, or the error -/
inductive WsR (L : List UInt8) : Nat → Option (List (List UInt8 × Bool)) → Prop
 | fin {p : Nat} : nxt L p = .fin → WsR L p (some [])
 | bad {p fr : Nat} : nxt L p = .bad fr → WsR L p none
 | wd {p : Nat} {s : List UInt8} {q : Bool} {fr to : Nat} {r : Option (List (List UInt8 × Bool))} : nxt L p = .wd s q fr to → WsR L to r → WsR L p (r.map ((s, q) :: ·))
theorem WsR.unique {L : List UInt8} : ∀ {p : Nat} {r r' : Option (List (List UInt8 × Bool))}, WsR L p r → WsR L p r' → r = r' := by
 intro p r r' h
 induction h generalizing r' with
 | fin h =>
  intro k
  cases k with
  | fin _ => rfl
  | bad k => rw [h] at k; cases k
  | wd k _ => rw [h] at k; cases k
 | bad h =>
  intro k
  cases k with
  | fin k => rw [h] at k; cases k
  | bad _ => rfl
  | wd k _ => rw [h] at k; cases k
 | wd h _ ih =>
  intro k
  cases k with
  | fin k => rw [h] at k; cases k
  | bad k => rw [h] at k; cases k
  | wd k k2 => rw [h] at k; cases k; rw [ih k2]

/-- a word as the program's iterator gives it: text, place, quoted -/
abbrev WV := ByteArray × Int × Bool
/-- the words between two places -/
inductive Path (L : List UInt8) : List WV → Nat → Prop
 | nil : Path L [] 0
 | snoc {pre : List WV} {p : Nat} {s : List UInt8} {q : Bool} {fr to : Nat} : Path L pre p → nxt L p = .wd s q fr to → Path L (pre ++ [(bs s, (fr : Int), q)]) to
theorem Path.le {L : List UInt8} {pre : List WV} {p : Nat} (h : Path L pre p) : p ≤ L.length ∧ pre.length ≤ p ∧ ∀ x ∈ pre, 0 ≤ x.2.1 := by
 induction h with
 | nil => exact ⟨Nat.zero_le _, Nat.le_refl _, fun x hx => by cases hx⟩
 | snoc h hn ih =>
  obtain ⟨i1, i2, i3⟩ := ih
  obtain ⟨k1, k2, k3, k4, _⟩ := nxt_wd i1 hn
  refine ⟨k4, by simp; omega, fun x hx => ?_⟩
  rcases List.mem_append.1 hx with hx | hx
  ·exact i3 x hx
  ·simp at hx; subst hx; exact Int.natCast_nonneg _
/-- the words that a list of words shows -/
def shows (pre : List WV) : List (List UInt8 × Bool) := pre.map fun x => (x.1.data.toList, x.2.2)
theorem Path.ws {L : List UInt8} {pre : List WV} {p : Nat} (h : Path L pre p) : ∀ {r}, WsR L p r → WsR L 0 (r.map (shows pre ++ ·)) := by
 induction h with
 | nil => intro r hr; cases r <;> simpa [shows] using hr
 | snoc h hn ih =>
  intro r hr
  have := ih (.wd hn hr)
  cases r with
  | none => simpa using this
  | some r => simpa [shows, bs] using this

/-- all words have come -/
def AllW (L : List UInt8) (xs : List WV) : Prop := (∃ p, Path L xs p ∧ nxt L p = .fin) ∨ ∃ pre p fr t, xs = pre ++ [(t, -1, true)] ∧ Path L pre p ∧ nxt L p = .bad fr
def PartW (L : List UInt8) (xs : List WV) : Prop := (∃ p, Path L xs p) ∨ ∃ pre p fr t, xs = pre ++ [(t, -1, true)] ∧ Path L pre p ∧ nxt L p = .bad fr

theorem calls_plainQ {P : Program} {F : CallF} (hF : FSound P F) {f : FuncId} {m : Int} (hG : 0 < P.globals.size) {args : List Value} (ha : ∀ (μ : Nat → Spot) (n : Nat), VRs μ n args args) {Q : Value → Prop} (hrun : callK F f args (St.begin m P.globals.size) fun v _ => Q v)
  (w : World) (hm : w.cell? ⟨0, 0, none⟩ = some (.int .i64 m)) (h0 : 0 < w.heap.size) :
  Calls P f args.toArray w fun e w' => (∃ v v' μ n, Q v ∧ VR μ n v v' ∧ e = .returned v') ∧ Below w.heap.size w w' := by
 have hr : Rel w.heap.size w (fun i => ⟨i, 0, 1, 0⟩) (St.begin m P.globals.size) w := by
  refine Rel.start _ (fun i o hi => ?_) (fun i o hi => ?_)
  ·rw [begin_get] at hi
   split at hi
   ·rename_i h
    subst h
    cases hi
    refine ⟨hG, h0, rfl, by simp, fun j v hj => ?_, fun _ => .inl h0, fun h => by cases h⟩
    cases j with
    | zero => simp at hj; subst hj; exact ⟨_, hm, .int _ _⟩
    | succ j => simp at hj
   ·cases hi
  ·rw [begin_get] at hi
   split at hi
   ·cases hi; rfl
   ·cases hi
 have hg : Glob P (fun i => ⟨i, 0, 1, 0⟩) (St.begin m P.globals.size).next := fun g hg => ⟨hg, rfl, rfl⟩
 refine (calls_of_run hF hrun hr hg (ha _ _)).mono fun e w' h => ?_
 obtain ⟨v, s', v', h1, h2, μ', _, h3, h4⟩ := h
 exact ⟨⟨v, v', μ', _, h1, h4, h2⟩, h3.below⟩

attribute [local irreducible] callO

theorem sound0 : FSound Tryz.prog (callO T0 orc fns 100000 2) := callO_sound (by kernel_rfl) T0_ok orc_sound (lookFn_ok fns_ok) 100000 2 T0_dfr

theorem next_calls (s : ByteArray) (hs : s.size ≤ 90000) (hr : s.data.toList.all prn = true) (p : Nat) (hp : p ≤ s.size) (w : World) (m : Int) (hm : w.cell? ⟨0, 0, none⟩ = some (.int .i64 m)) (h0 : 0 < w.heap.size) :
  Calls Tryz.prog 80 #[.string s, .int .i64 (p : Nat)] w fun e w' => (∃ t a q e1, wdVal s.data.toList p (.agg #[.string t, .int .i64 a, .bool q]) e1 ∧ e = .returned (.tuple #[.agg #[.string t, .int .i64 a, .bool q], .int .i64 e1])) ∧ Below w.heap.size w w' := by
 refine (calls_plainQ sound0 (m := m) (by decide +kernel) (args := [.string s, .int .i64 (p : Nat)]) (fun μ n => .cons _ _ _ _ (.string _) (.cons _ _ _ _ (.int _ _) .nil)) (Q := fun v => ∃ t a q e1, wdVal s.data.toList p (.agg #[.string t, .int .i64 a, .bool q]) e1 ∧ v = .tuple #[.agg #[.string t, .int .i64 a, .bool q], .int .i64 e1]) ?_ w hm h0).mono fun e w' hh => ⟨?_, hh.2⟩
 ·refine kNext 1 s hs p hp hr fun v e st' hw _ => ?_
  have : ∃ t a q, v = .agg #[.string t, .int .i64 a, .bool q] := by
   unfold wdVal at hw
   split at hw
   ·exact ⟨_, _, _, hw.1⟩
   ·obtain ⟨⟨t, a, h⟩, _⟩ := hw; exact ⟨t, a, true, h⟩
   ·exact ⟨_, _, _, hw.1⟩
  obtain ⟨t, a, q, rfl⟩ := this
  exact ⟨t, a, q, e, hw, rfl⟩
 ·obtain ⟨⟨v, v', μ, n, ⟨t, a, q, e1, h1, rfl⟩, h2, rfl⟩, _⟩ := hh
  refine ⟨t, a, q, e1, h1, ?_⟩
  cases h2 with
  | tuple u u' h =>
   have hu : u' = #[.agg #[.string t, .int .i64 a, .bool q], .int .i64 e1] := by
    obtain ⟨u'⟩ := u'
    cases h with
    | cons _ _ _ _ k1 k2 =>
     cases k2 with
     | cons _ _ _ _ k3 k4 =>
      cases k4
      cases k3
      cases k1 with
      | agg x x' k =>
       obtain ⟨x'⟩ := x'
       cases k with
       | cons _ _ _ _ j1 j2 =>
        cases j2 with
        | cons _ _ _ _ j3 j4 =>
         cases j4 with
         | cons _ _ _ _ j5 j6 =>
          cases j6
          cases j1
          cases j3
          cases j5
          rfl
   rw [hu]

theorem readable_calls (s : ByteArray) (w : World) (m : Int) (hm : w.cell? ⟨0, 0, none⟩ = some (.int .i64 m)) (h0 : 0 < w.heap.size) :
  Calls Tryz.prog 48 #[.string s] w fun e w' => e = .returned (.int .i64 (readA s)) ∧ Below w.heap.size w w' := by
 refine (calls_plainQ sound0 (m := m) (by decide +kernel) (args := [.string s]) (fun μ n => .cons _ _ _ _ (.string _) .nil) (Q := fun v => v = .int .i64 (readA s)) ?_ w hm h0).mono fun e w' hh => ⟨?_, hh.2⟩
 ·exact kReadable 1 s rfl
 ·obtain ⟨⟨v, v', μ, n, rfl, h2, rfl⟩, _⟩ := hh
  cases h2
  rfl
end Go.Proofs.YtjomiadmminhfaaGreatDoor
