/-
  StreamNames called at a row's world: it returns true, and no block that was there has turned.
-/
import Derived.Test.YtocofoiijfofaaaDoorDNames
import Derived.Test.YtocofoiijfofaaaDoorAmRow
set_option linter.unusedSimpArgs false
set_option linter.unusedVariables false
set_option maxRecDepth 10000
namespace Go.Proofs.YtocofoiijfofaaaDoor
open Go.Am
attribute [local irreducible] callO
open Go.RowKit (Below)

def mu (b off n : Nat) : Nat → Spot := fun i => if i = 3 then ⟨b, off, off + n, 0⟩ else ⟨i, 0, 1, 0⟩

def st0 (m : Int) : St := St.begin m 4
def st1 (m : Int) (ls : List ByteArray) : St := (st0 m).put 3 (some (.row (ls.map Value.string) 0 true))

theorem names_sound (n : Nat) : FSound Tryd.prog (callO T0 orc fns 1000 n) := callO_sound (by kernel_rfl) T0_ok orc_sound (lookFn_ok fns_ok) 1000 n

theorem globals3 : Tryd.prog.globals.size = 3 := by kernel_rfl

theorem hasMax_st0 (m : Int) : hasMax (st0 m) = true := by
  unfold hasMax st0
  rw [begin_get, if_pos rfl]

theorem names_calls (W : World) (m : Int) (hm : W.cell? ⟨0, 0, none⟩ = some (.int .i64 m)) (h0 : 0 < W.heap.size) (b off len cap : Nat) (name : ByteArray) (ls : List ByteArray) (hlc : len ≤ cap) (hb : b < W.heap.size) (hlen : ls.length = len * 2)
    (hc : ∀ (j : Nat) (s : ByteArray), ls[j]? = some s → W.cell? ⟨b, off + j, none⟩ = some (.string s)) : Calls Tryd.prog 3 #[.slice (some ⟨b, off, none⟩) len cap, .string name] W fun e W' => e = .returned (.bool true) ∧ Below W.heap.size W W' := by
  have hg1 : ∀ i, (st1 m ls).get i = if 3 = i then some (.row (ls.map Value.string) 0 true) else if 0 = i then some (.row [.int .i64 m] 0 true) else none := fun i => by
    unfold st1 st0
    rw [St.get_put, begin_get]
  have hr : Rel W.heap.size W (mu b off (len * 2)) (st1 m ls) W := by
    refine Rel.start _ (fun i o hi => ?_) (fun i o hi => ?_)
    · rw [hg1] at hi
      split at hi
      · rename_i h
        subst h
        cases hi
        refine ⟨by show 3 < 4; decide, hb, rfl, by show off + _ ≤ off + len * 2; simp [hlen], fun j v hj => ?_, fun _ => .inl hb, fun h => by cases h⟩
        rw [List.getElem?_map, Option.map_eq_some_iff] at hj
        obtain ⟨s, hs, rfl⟩ := hj
        exact ⟨_, hc j s hs, .string _⟩
      · split at hi
        · rename_i h
          subst h
          cases hi
          refine ⟨by show 0 < 4; decide, h0, rfl, by show 0 + 1 ≤ 1; decide, fun j v hj => ?_, fun _ => .inl h0, fun h => by cases h⟩
          cases j with
          | zero => simp at hj; subst hj; exact ⟨_, hm, .int _ _⟩
          | succ j => simp at hj
        · cases hi
    · rw [hg1] at hi
      split at hi
      · cases hi; rfl
      · split at hi
        · cases hi; rfl
        · cases hi
  have hg : Glob Tryd.prog (mu b off (len * 2)) (st1 m ls).next := fun g hgl => by
    rw [globals3] at hgl
    have h3 : g ≠ 3 := by omega
    refine ⟨by show g < 4; omega, ?_, ?_⟩ <;> (unfold mu; rw [if_neg h3])
  have ha : VRs (mu b off (len * 2)) (st1 m ls).next [.slice (some ⟨3, 0, none⟩) len cap, .string name] [.slice (some ⟨b, off, none⟩) len cap, .string name] :=
    .cons _ _ _ _ (.slice 3 0 off len cap cap (by show 3 < 4; decide) hlc (Nat.le_refl _) (fun _ => rfl) (fun _ => rfl) (Nat.le_refl _) (fun h => absurd rfl h)) (.cons _ _ _ _ (.string _) .nil)
  have hmax : hasMax (st1 m ls) = true := by unfold hasMax; rw [hg1]; rfl
  have hrun := k3 0 3 (some ⟨3, 0, none⟩) len cap ls name (st1 m ls) (fun v _ => v = .bool true) hmax (by show 0 < 4; decide) (by show 3 < 4; decide) (by omega) (fun _ => ⟨rfl, by rw [hg1, if_pos rfl]⟩) (fun _ => rfl)
  refine (calls_of_run (names_sound (0 + 6)) hrun hr hg ha).mono fun e w' h => ?_
  obtain ⟨v, s', v', h1, h2, μ', _, h3, h4⟩ := h
  simp only at h1
  subst h1
  cases h4
  exact ⟨h2, h3.below⟩

theorem names_calls_nil (W : World) (m : Int) (hm : W.cell? ⟨0, 0, none⟩ = some (.int .i64 m)) (h0 : 0 < W.heap.size) (name : ByteArray) : Calls Tryd.prog 3 #[.slice none 0 0, .string name] W fun e W' => e = .returned (.bool true) ∧ Below W.heap.size W W' := by
  have hr : Rel W.heap.size W (fun i => ⟨i, 0, 1, 0⟩) (st0 m) W := by
    refine Rel.start _ (fun i o hi => ?_) (fun i o hi => ?_)
    · unfold st0 at hi
      rw [begin_get] at hi
      split at hi
      · rename_i h
        subst h
        cases hi
        refine ⟨by show 0 < 4; decide, h0, rfl, by show 0 + 1 ≤ 1; decide, fun j v hj => ?_, fun _ => .inl h0, fun h => by cases h⟩
        cases j with
        | zero => simp at hj; subst hj; exact ⟨_, hm, .int _ _⟩
        | succ j => simp at hj
      · cases hi
    · unfold st0 at hi
      rw [begin_get] at hi
      split at hi
      · cases hi; rfl
      · cases hi
  have hg : Glob Tryd.prog (fun i => ⟨i, 0, 1, 0⟩) (st0 m).next := fun g hgl => by
    rw [globals3] at hgl
    exact ⟨by show g < 4; omega, rfl, rfl⟩
  have ha : VRs (fun i => ⟨i, 0, 1, 0⟩) (st0 m).next [.slice none 0 0, .string name] [.slice none 0 0, .string name] := .cons _ _ _ _ .nilSlice (.cons _ _ _ _ (.string _) .nil)
  have hrun := k3 0 3 none 0 0 [] name (st0 m) (fun v _ => v = .bool true) (hasMax_st0 m) (by show 0 < 4; decide) (by show 3 < 4; decide) rfl (fun h => absurd h (by decide)) (fun _ => rfl)
  refine (calls_of_run (names_sound (0 + 6)) hrun hr hg ha).mono fun e w' h => ?_
  obtain ⟨v, s', v', h1, h2, μ', _, h3, h4⟩ := h
  simp only at h1
  subst h1
  cases h4
  exact ⟨h2, h3.below⟩
end Go.Proofs.YtocofoiijfofaaaDoor
