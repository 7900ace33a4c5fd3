/-
  Usage, by the program and by the chapter.
-/
import Derived.Test.YtdmemibnphcedaaGreatDoorRTplI
set_option linter.unusedSimpArgs false
set_option linter.unusedVariables false
set_option maxRecDepth 10000
set_option linter.unusedSectionVars false
namespace Go.Proofs.YtdmemibnphcedaaGreatDoor
open Go.Am

theorem wk_rangeS {s : St} {W : Value → St → Prop} (b : ByteArray) : wopK (.range true) [.string b] s W = W (.pointer (some ⟨s.next, 0, none⟩)) (s.new (.strIter b 0)) := of_eq_true (eq_self _)
theorem next_chr {s : St} {i pos : Nat} {b : ByteArray} (hi : s.get i = some (.strIter b pos)) (hp : pos < b.size) {W : Value → St → Prop} (hW : W (.tuple #[.bool true, .int .i64 pos, .int .i32 (Utf8.decode b pos).1]) (s.put i (some (.strIter b (pos + (Utf8.decode b pos).2))))) : nextK true [.pointer (some ⟨i, 0, none⟩)] s W := by
  simp only [nextK, nextV, ne_eq, not_true_eq_false, if_false, hi, Bool.true_eq_false]
  rw [if_pos hp]
  exact hW
theorem next_chrEnd {s : St} {i pos : Nat} {b : ByteArray} (hi : s.get i = some (.strIter b pos)) (hp : ¬ pos < b.size) {W : Value → St → Prop} (hW : W (.tuple #[.bool false]) s) : nextK true [.pointer (some ⟨i, 0, none⟩)] s W := by
  simp only [nextK, nextV, ne_eq, not_true_eq_false, if_false, hi, Bool.true_eq_false]
  rw [if_neg hp]
  exact hW

/-- the text of the first marks -/
def mkUp (x : Mk) : Nat → List UInt8
  | 0 => []
  | j + 1 => mkUp x j ++ (bif x.bit j then 47 :: (lt j).data.toList else [])
theorem mkUp6 (x : Mk) : mkUp x 6 = mkText x := by
  obtain ⟨a, k, s, n, m, f⟩ := x
  simp only [mkUp, mkText, Mk.bit, lt, List.nil_append]
theorem mkUp_len (x : Mk) : ∀ j, (mkUp x j).length ≤ 2 * j
  | 0 => Nat.le_refl _
  | j + 1 => by
    have := mkUp_len x j
    simp only [mkUp, List.length_append]
    have : (bif x.bit j then 47 :: (lt j).data.toList else []).length ≤ 2 := by cases x.bit j <;> simp [lt]
    omega

section
variable {st : St} {v : Value} {K : Value → St → Prop} {xs : List ByteArray}
theorem joinV_bs (xs : List ByteArray) (sep : ByteArray) : joinV xs sep = bs (Lib.join (xs.map (·.data.toList)) sep.data.toList) := rfl

theorem kJoin (n : Nat) (hv : Cel st v (xs.map Value.string)) (sep : ByteArray) (hl : xs.length ≤ 140737488355328) (hj : (Lib.join (xs.map (·.data.toList)) sep.data.toList).length ≤ 140737488355328) (hv0 : xs = [] → v = .slice none 0 0) (h : K (.string (bs (Lib.join (xs.map (·.data.toList)) sep.data.toList))) st) : callK (callO T0 orc fns 100000 n) 42 [v, .string sep] st K := by
  rw [callO_none (by rfl)]
  have e : orc 42 [v, .string sep] st = .ret (.string (bs (Lib.join (xs.map (·.data.toList)) sep.data.toList)), st) := by
    rw [orc_eq (by decide)]
    by_cases hx : xs = []
    · rw [hv0 hx]
      subst hx
      rfl
    · have hpos : 0 < xs.length := List.length_pos_iff.2 hx
      rcases hv with ⟨_, hc⟩ | ⟨b, o, cap, all, g, ro, h1, h2, h3, h4⟩ | ⟨ad, _, hc⟩
      · exact (hx (by simpa using hc)).elim
      · rw [List.length_map] at h1 h3 h4
        rw [h1]
        have hcl : st.cells ⟨b, o, none⟩ xs.length = some (xs.map Value.string) := by
          simp only [St.cells, h2]
          rw [if_pos h3, h4]
        have hne : ∀ c : Value, orc1 42 [.slice (some ⟨b, o, none⟩) xs.length cap, .string sep] st = (if 0 < xs.length then (match st.cells ⟨b, o, none⟩ xs.length with
            | some l => (match strsOf l with
              | some ys => if ys.length ≤ 140737488355328 ∧ (Lib.join (ys.map (·.data.toList)) sep.data.toList).length ≤ 140737488355328 then .ret (.string (joinV ys sep), st) else .fail
              | none => .fail)
            | none => .fail) else .fail) := fun _ => rfl
        rw [hne undef, if_pos hpos, hcl]
        simp only [strsOf_map]
        rw [if_pos ⟨hl, hj⟩]
        rfl
      · exact (hx (by simpa using hc)).elim
  exact (propext (callK_ret (K := K) e)).mpr h
end
end Go.Proofs.YtdmemibnphcedaaGreatDoor
