/-
  ArgsWords: for every text, the law returns true, and its arguments read as before. Conditions: those of the row and its card.
  A text is quoted: by the program.
  A text is quoted: by the chapter.
  The chapter's Words, and ArgsWords on the second machine.
  The chapter's Fit.
  Lists of arguments read: Get, EqArgs.
  ArgsFits on the second machine.
  From a run to a row: a law that returns true and leaves its arguments as they read.
  Arguments taken in: what a reader reads, as rows of the second machine.
  How ArgsFits begins: the variable strconv.ErrRange holds an error.
  ArgsWords on the second machine.
-/
import Derived.Test.YtdmemibnphcedaaGreatDoorRWrdClaimPart5
import Derived.ChangeSame
import Derived.WideKeyArgs
import Derived.RowKit
import Derived.ChangeArms
import Derived.OpenShut
import Derived.ChangeMaps5
import Derived.Test.YtdmemibnphcedaaGreatDoorRows
import Derived.Test.YtdmemibnphcedaaGreatDoorChecked
import Derived.Stop.LaidErr
import Derived.LaidLaws
import Derived.LaidSub
import Derived.ProofKit
import Derived.Test.YtdmemibnphcedaaGreatDoorCards
import Derived.Test.YtdmemibnphcedaaGreatDoorTie
import Derived.WalkKit
import Derived.Deep.DeepHandedRow
import Derived.Lib.LaidTab
import Derived.Lay
section
set_option linter.unusedSimpArgs false
set_option linter.unusedVariables false
set_option maxRecDepth 10000
set_option linter.unusedSectionVars false
namespace Go.Proofs.YtdmemibnphcedaaGreatDoor
open Go.Am

/-- bytes that no word has become question marks -/
def qB (c : UInt8) : UInt8 := if c = 10 ∨ prn c = true then c else 63
/-- bytes that want quotes -/
def spc (c : UInt8) : Bool := [32, 34, 61, 42, 10].contains c
def quoteL (l : List UInt8) : List UInt8 := if l ≠ [] ∧ (l.map qB).any spc = false then l.map qB else 34 :: (escL (l.map qB) ++ [34])

theorem qB_keep {c : UInt8} (h : c.toNat = 10 ∨ (32 ≤ c.toNat ∧ c.toNat ≤ 126)) : qB c = c := by
  unfold qB
  rw [if_pos]
  rcases h with h | h
  · exact .inl (UInt8.toNat.inj h)
  · right; simp [prn, h]
theorem qB_q {c : UInt8} (h1 : c.toNat ≠ 10) (h2 : c.toNat < 32 ∨ 126 < c.toNat) : qB c = 63 := by
  unfold qB
  rw [if_neg]
  rintro (h | h)
  · exact h1 (by rw [h]; rfl)
  · simp [prn] at h; omega
theorem qB_ascii (c : UInt8) : (qB c).toNat < 128 := by
  by_cases h : c.toNat = 10 ∨ (32 ≤ c.toNat ∧ c.toNat ≤ 126)
  · rw [qB_keep h]; omega
  · rw [qB_q (by omega) (by omega)]; decide

theorem size_bsl (l : List UInt8) : (bs l).size = l.length := by simp [bs, ByteArray.size]
theorem contAny_any (cs : List UInt8) : ∀ l : List UInt8, Lib.containsAny l cs = l.any cs.contains
  | [] => rfl
  | b :: l => by
    have ih := contAny_any cs l
    have hg := Lib.indexAny_ge cs l
    unfold Lib.containsAny at ih ⊢
    have e : Lib.indexAny (b :: l) cs = if cs.contains b then 0 else if Lib.indexAny l cs == -1 then -1 else Lib.indexAny l cs + 1 := rfl
    rw [List.any_cons, ← ih, e]
    cases hb : cs.contains b with
    | true => simp
    | false =>
      simp only [Bool.false_eq_true, if_false, Bool.false_or, beq_iff_eq]
      by_cases h1 : Lib.indexAny l cs = -1
      · rw [if_pos h1, h1]
      · rw [if_neg h1]
        rw [decide_eq_true (show 0 ≤ Lib.indexAny l cs + 1 by omega), decide_eq_true (show 0 ≤ Lib.indexAny l cs by omega)]

attribute [local irreducible] callO wopK ropK popK opK grpsE listE sx Runs

section
variable {st : St} {K : Value → St → Prop}

theorem kContAny (n : Nat) (l : List UInt8) (hl : l.length ≤ 40000) (ha : ∀ c ∈ l, c.toNat < 128) (h : K (.bool (l.any spc)) st) : callK (callO T0 orc fns 100000 n) 49 [.string (bs l), .string ⟨#[32, 34, 61, 42, 10]⟩] st K := by
  rw [callO_none (by rfl)]
  have hbs : (bs l).size = l.length := by simp [bs, ByteArray.size]
  have h1 : (bs l).size < 4294967281 := by omega
  have h2 : asciiB (bs l) = true := by
    unfold asciiB
    rw [List.all_eq_true]
    exact fun c hc => decide_eq_true (ha c (by simpa [bs] using hc))
  have h3 : asciiB (⟨#[32, 34, 61, 42, 10]⟩ : ByteArray) = true := by decide +kernel
  have h4 : (⟨#[32, 34, 61, 42, 10]⟩ : ByteArray).size < 4294967281 := by decide
  have e : orc 49 [.string (bs l), .string ⟨#[32, 34, 61, 42, 10]⟩] st = .ret (.bool (l.any spc), st) := by
    rw [orc_eq (by decide)]
    unfold orc1
    simp only [Nat.reduceEqDiff, if_false, if_true]
    rw [if_pos ⟨h1, h4, h2, h3⟩, contAny_any]
    rfl
  exact (propext (callK_ret (K := K) e)).mpr h

theorem kQuote (n : Nat) (s : ByteArray) (hs : s.size ≤ 40000) (h : ∀ st', Frm st st' → K (.string (bs (quoteL s.data.toList))) st') :
    callK (callO T0 orc fns 100000 (n + 7)) 26 [.string s] st K := by
  refine fn_runs (fn := g26) ?_ ?_ ?_
  · rfl
  · rfl
  unfold g26
  have hsz := size_list s
  simp (disch := omega) only [↓sxA, ↓wk_store, sxB, sxP, Nat.reduceLeDiff, reduceCtorEq, Nat.reduceEqDiff, Nat.reduceAdd, Int.reduceLT, Int.reduceLE, Int.reduceEq, Nat.reduceLT, Int.reduceToNat, Int.reduceAdd, Int.reduceSub, ↓reduceIte]
  refine loop_rule [3, 8, 9, 10] (fun vs s' => ∃ j : Nat, vs = [.slice (some ⟨st.next, 0, none⟩) s.size s.size, .slice (some ⟨st.next, 0, none⟩) s.size s.size, .int .i64 (s.size : Nat), .int .i64 (j : Nat)] ∧ j ≤ s.size ∧ s'.next = st.next + 1 ∧ (∀ i, i < st.next → s'.get i = st.get i) ∧ s'.get st.next = some (.row (((s.data.toList.take j).map qB ++ s.data.toList.drop j).map u8v) 1 false)) (fun vs _ => match lget vs 3 with
      | .int _ k => ((s.size : Int) - k).toNat
      | _ => 0) ?_ ?_ ?_
  · rfl
  · refine ⟨_, rfl, ⟨0, rfl, Nat.zero_le _, rfl, fun i hi => get_new_ne _ _ _ (by omega), get_new_same _ _⟩, ?_⟩
    show ((s.size : Int) - 0).toNat < 100000
    omega
  · rintro vs s' ⟨j, rfl, j1, hn, hf, hg⟩
    show sx _ _ _ _ _ [(3, _), (8, _), (9, _), (10, _)] _ _ _ _
    have F : Frm st s' := ⟨by omega, hf⟩
    by_cases hj : j < s.size
    · obtain ⟨c, hc, hgd, hb⟩ := byte_at s j hj
      have hlj : ((s.data.toList.take j).map qB).length = j := by rw [List.length_map, List.length_take]; omega
      have hcj : (((s.data.toList.take j).map qB ++ s.data.toList.drop j).map u8v)[j]? = some (.int .u8 (c.toNat : Int)) := by
        rw [List.getElem?_map, List.getElem?_append_right (by omega), hlj, List.getElem?_drop, Nat.sub_self, Nat.add_zero, hc]; rfl
      have hdrop : s.data.toList.drop j = c :: s.data.toList.drop (j + 1) := by
        obtain ⟨h1, h2⟩ := List.getElem?_eq_some_iff.1 hc
        rw [List.drop_eq_getElem_cons h1, h2]
      have htake : s.data.toList.take (j + 1) = s.data.toList.take j ++ [c] := by rw [List.take_add_one, hc]; rfl
      have ix : ∀ K : Value → Prop, popK (.indexAddr 1) [.slice (some ⟨st.next, 0, none⟩) s.size s.size, .int .i64 (j : Int)] K = K (.pointer (some ⟨st.next, j, none⟩)) := fun K => by
        rw [pk_indexAddr]
        have e : (0 : Nat) + (j : Int).toNat * 1 = j := by omega
        rw [e]
        exact propext ⟨fun h => h.2, fun h => ⟨⟨by omega, by omega⟩, h⟩⟩
      have ld : ∀ K : Value → Prop, ropK .load1 [.pointer (some ⟨st.next, j, none⟩)] s' K = K (.int .u8 (c.toNat : Int)) := fun K => by
        rw [rk_load1, hg]
        simp only [getK, rowK]
        exact nthK_at hcj K
      have keepRow : qB c = c → (((s.data.toList.take (j + 1)).map qB ++ s.data.toList.drop (j + 1)).map u8v) = (((s.data.toList.take j).map qB ++ s.data.toList.drop j).map u8v) := fun e => by
        rw [htake, hdrop, List.map_append (f := qB), List.append_assoc]
        simp only [List.map_cons, List.map_nil, e, List.singleton_append]
      have hmeas : ((s.size : Int) - ((j : Int) + 1)).toNat < ((s.size : Int) - j).toNat := by omega
      have bad : qB c = 63 → ∀ W : Value → St → Prop, wopK (.store 1) [.pointer (some ⟨st.next, j, none⟩), .int .u8 63] s' W = W undef (s'.put st.next (some (.row (((s.data.toList.take (j + 1)).map qB ++ s.data.toList.drop (j + 1)).map u8v) 1 false))) := fun e W => by
        have hl : j < (((s.data.toList.take j).map qB ++ s.data.toList.drop j).map u8v).length := by
          rw [List.length_map, List.length_append, hlj, List.length_drop]; omega
        have hrow : lputs (((s.data.toList.take j).map qB ++ s.data.toList.drop j).map u8v) j [.int .u8 63] = (((s.data.toList.take (j + 1)).map qB ++ s.data.toList.drop (j + 1)).map u8v) := by
          rw [htake, hdrop]
          simp only [List.map_append, List.map_cons, List.map_nil, List.append_assoc, List.singleton_append, e]
          unfold lputs
          have e1 : ((s.data.toList.take j).map qB |>.map u8v).length = j := by rw [List.length_map]; exact hlj
          rw [List.take_left' e1, ← List.drop_drop, List.drop_left' e1]
          simp
          rfl
        rw [wk_store, hg]
        simp only [getK, rowK]
        rw [show cellsOf (.int .u8 63) = [.int .u8 63] from rfl, hrow]
        exact propext ⟨fun h => h.2.2, fun h => ⟨rfl, ⟨by first | trivial | rfl, by omega, by rfl⟩, h⟩⟩
      simp (disch := omega) only [↓sxA, sxB, sxP, Nat.reduceLeDiff, reduceCtorEq, Nat.reduceEqDiff, Nat.reduceAdd, Int.reduceLT, Int.reduceLE, Int.reduceEq, Nat.reduceLT, Int.reduceToNat, Int.reduceAdd, Int.reduceSub, ↓reduceIte, ↓ix, ↓ld]
      have keep : qB c = c → ∃ j_1 : Nat, [Value.slice (some ⟨st.next, 0, none⟩) s.size s.size, .slice (some ⟨st.next, 0, none⟩) s.size s.size, .int .i64 (s.size : Nat), .int .i64 ((j : Int) + 1)] = [.slice (some ⟨st.next, 0, none⟩) s.size s.size, .slice (some ⟨st.next, 0, none⟩) s.size s.size, .int .i64 (s.size : Nat), .int .i64 (j_1 : Nat)] ∧ j_1 ≤ s.size ∧ s'.next = st.next + 1 ∧ (∀ i, i < st.next → s'.get i = st.get i) ∧ s'.get st.next = some (.row (((s.data.toList.take j_1).map qB ++ s.data.toList.drop j_1).map u8v) 1 false) := fun e => ⟨j + 1, by simp, hj, hn, hf, by rw [keepRow e]; exact hg⟩
      refine iteI (fun c1 => ?_) (fun c1 => iteI (fun c2 => ?_) (fun c2 => iteI (fun c3 => ?_) (fun c3 => ?_)))
      · exact ⟨_, rfl, keep (qB_keep (.inl (by omega))), hmeas⟩
      · have bw := bad (qB_q (by omega) (by omega))
        simp (disch := omega) only [↓sxA, sxB, sxP, Nat.reduceLeDiff, reduceCtorEq, Nat.reduceEqDiff, Nat.reduceAdd, Int.reduceLT, Int.reduceLE, Int.reduceEq, Nat.reduceLT, Int.reduceToNat, Int.reduceAdd, Int.reduceSub, ↓reduceIte, ↓ix, ↓bw]
        exact ⟨_, rfl, ⟨j + 1, by simp, hj, hn, fun i hi => (get_put_ne _ _ _ _ (by omega)).trans (hf i hi), by first | rfl | exact get_put_same _ _ _⟩, hmeas⟩
      · have bw := bad (qB_q (by omega) (by omega))
        simp (disch := omega) only [↓sxA, sxB, sxP, Nat.reduceLeDiff, reduceCtorEq, Nat.reduceEqDiff, Nat.reduceAdd, Int.reduceLT, Int.reduceLE, Int.reduceEq, Nat.reduceLT, Int.reduceToNat, Int.reduceAdd, Int.reduceSub, ↓reduceIte, ↓ix, ↓bw]
        exact ⟨_, rfl, ⟨j + 1, by simp, hj, hn, fun i hi => (get_put_ne _ _ _ _ (by omega)).trans (hf i hi), by first | rfl | exact get_put_same _ _ _⟩, hmeas⟩
      · exact ⟨_, rfl, keep (qB_keep (.inr (by omega))), hmeas⟩
    · have e1 : s.data.toList.take j = s.data.toList := List.take_of_length_le (by omega)
      have e2 : s.data.toList.drop j = [] := List.drop_eq_nil_of_le (by omega)
      rw [e1, e2, List.append_nil] at hg
      have rs : ∀ K : Value → Prop, ropK .bytesToStr [.slice (some ⟨st.next, 0, none⟩) s.size s.size] s' K = K (.string (bs (s.data.toList.map qB))) := fun K => rk_toStr (K := K) (b := st.next) (o := 0) (n := s.size) (cap := s.size) hg (l := s.data.toList.map qB) (by rw [List.drop_zero, List.take_of_length_le (by simp)]) (by simp)
      have hmA : ∀ c ∈ s.data.toList.map qB, c.toNat < 128 := fun c hc => by
        obtain ⟨d, _, rfl⟩ := List.mem_map.1 hc
        exact qB_ascii d
      by_cases h0 : s.data.toList = []
      · have e0 : (bs (s.data.toList.map qB) = ByteArray.empty) = True := by rw [h0]; exact eq_true rfl
        simp (disch := omega) only [↓sxA, ↓wk_store, sxB, sxP, Nat.reduceLeDiff, reduceCtorEq, Nat.reduceEqDiff, Nat.reduceAdd, Int.reduceLT, Int.reduceLE, Int.reduceEq, Nat.reduceLT, Int.reduceToNat, Int.reduceAdd, Int.reduceSub, ↓reduceIte]
        rw [rs]
        simp (disch := omega) only [↓sxA, ↓wk_store, sxB, sxP, Nat.reduceLeDiff, reduceCtorEq, Nat.reduceEqDiff, Nat.reduceAdd, Int.reduceLT, Int.reduceLE, Int.reduceEq, Nat.reduceLT, Int.reduceToNat, Int.reduceAdd, Int.reduceSub, ↓reduceIte]
        rw [if_pos (of_eq_true e0)]
        refine kEscaped n _ (by rw [size_bsl, List.length_map]; omega) fun s2 F2 => ?_
        simp (disch := omega) only [↓sxA, ↓wk_store, sxB, sxP, Nat.reduceLeDiff, reduceCtorEq, Nat.reduceEqDiff, Nat.reduceAdd, Int.reduceLT, Int.reduceLE, Int.reduceEq, Nat.reduceLT, Int.reduceToNat, Int.reduceAdd, Int.reduceSub, ↓reduceIte]
        have := h s2 (F.trans F2)
        unfold quoteL at this
        rw [if_neg (by simp [h0])] at this
        exact this
      have e0 : (bs (s.data.toList.map qB) = ByteArray.empty) = False := eq_false fun e => h0 (by
        have := congrArg (fun b : ByteArray => b.data.toList) e
        simpa [bs] using this)
      simp (disch := omega) only [↓sxA, ↓wk_store, sxB, sxP, Nat.reduceLeDiff, reduceCtorEq, Nat.reduceEqDiff, Nat.reduceAdd, Int.reduceLT, Int.reduceLE, Int.reduceEq, Nat.reduceLT, Int.reduceToNat, Int.reduceAdd, Int.reduceSub, ↓reduceIte]
      rw [rs]
      simp (disch := omega) only [↓sxA, ↓wk_store, sxB, sxP, Nat.reduceLeDiff, reduceCtorEq, Nat.reduceEqDiff, Nat.reduceAdd, Int.reduceLT, Int.reduceLE, Int.reduceEq, Nat.reduceLT, Int.reduceToNat, Int.reduceAdd, Int.reduceSub, ↓reduceIte]
      rw [if_neg (of_eq_false e0)]
      refine kContAny (n + 6) _ (by simp; omega) hmA ?_
      cases hq : (s.data.toList.map qB).any spc with
      | false =>
        simp (disch := omega) only [↓sxA, ↓wk_store, sxB, sxP, Nat.reduceLeDiff, reduceCtorEq, Nat.reduceEqDiff, Nat.reduceAdd, Int.reduceLT, Int.reduceLE, Int.reduceEq, Nat.reduceLT, Int.reduceToNat, Int.reduceAdd, Int.reduceSub, ↓reduceIte, Bool.not_false, Bool.not_true]
        have := h _ F
        unfold quoteL at this
        rw [if_pos ⟨h0, hq⟩] at this
        exact this
      | true =>
        simp (disch := omega) only [↓sxA, ↓wk_store, sxB, sxP, Nat.reduceLeDiff, reduceCtorEq, Nat.reduceEqDiff, Nat.reduceAdd, Int.reduceLT, Int.reduceLE, Int.reduceEq, Nat.reduceLT, Int.reduceToNat, Int.reduceAdd, Int.reduceSub, ↓reduceIte, Bool.not_false, Bool.not_true]
        refine kEscaped n _ (by rw [size_bsl, List.length_map]; omega) fun s2 F2 => ?_
        simp (disch := omega) only [↓sxA, ↓wk_store, sxB, sxP, Nat.reduceLeDiff, reduceCtorEq, Nat.reduceEqDiff, Nat.reduceAdd, Int.reduceLT, Int.reduceLE, Int.reduceEq, Nat.reduceLT, Int.reduceToNat, Int.reduceAdd, Int.reduceSub, ↓reduceIte]
        have := h s2 (F.trans F2)
        unfold quoteL at this
        rw [if_neg (by simp [hq])] at this
        exact this
end
end Go.Proofs.YtdmemibnphcedaaGreatDoor
end
section
set_option linter.unusedSimpArgs false
set_option linter.unusedVariables false
set_option maxRecDepth 10000
set_option linter.unusedSectionVars false
namespace Go.Proofs.YtdmemibnphcedaaGreatDoor
open Go.Am

/-- bytes that grow, or the ones that were laid first -/
def GQ (st : St) (v : Value) (l : List UInt8) : Prop := Gro st v l ∨ ∃ b, v = .slice (some ⟨b, 0, none⟩) l.length l.length ∧ st.get b = some (.row (l.map u8v) 0 false) ∧ l ≠ []

section
variable {st st' : St} {v u : Value} {l m : List UInt8}
theorem GQ.bys (h : GQ st v l) : Bys st v l := by
  rcases h with h | ⟨b, h1, h2, h3⟩
  · exact h.bys
  · exact .inr (.inl ⟨b, 0, l.length, l.map u8v, 0, false, h1, Nat.le_refl _, h2, .inl rfl, by simp, by rw [List.drop_zero, List.take_of_length_le (by simp)]⟩)
theorem GQ.keep (h : GQ st v l) (hb : ∀ i, i + 1 = ow v → st'.get i = st.get i) : GQ st' v l := by
  rcases h with h | ⟨b, h1, h2, h3⟩
  · exact .inl (h.keep hb)
  · subst h1; exact .inr ⟨b, rfl, (hb b rfl).trans h2, h3⟩
theorem appendQ (hd : GQ st v l) (hs : Bys st u m) (hm : m ≠ []) (hsz : l.length + m.length ≤ 1099511627776) {W : Value → St → Prop}
    (h : ∀ v' st', Gro st' v' (l ++ m) → (ow v' = ow v ∨ (ow v' = st.next + 1 ∧ st.next + 1 ≤ st'.next)) → st.next ≤ st'.next → (∀ i, i + 1 ≠ ow v → i < st.next → st'.get i = st.get i) → W v' st') :
    wopK (.append 1 1) [v, u] st W := by
  rcases hd with hd | ⟨b, h1, h2, h3⟩
  · exact append_go hd hs hsz h
  · subst h1
    obtain ⟨s1, s2⟩ := hs.src
    have hm0 : m.length ≠ 0 := fun e => hm (List.eq_nil_of_length_eq_zero e)
    have h4 : st.cells ⟨b, 0, none⟩ (l.length * 1) = some (l.map u8v) := by
      simp only [St.cells, h2]
      rw [if_pos (by simp), List.drop_zero, List.take_of_length_le (by simp)]
    simp only [wopK, wop, appendV, s1, s2, hm0, if_false, all_u8, Nat.one_ne_zero, not_true_eq_false, or_self, h2, h4, if_true]
    rw [if_pos ⟨by omega, hsz⟩, if_neg (by omega)]
    refine h _ (st.new (.row (l.map u8v ++ m.map u8v) 1 false)) (.inr (.inl ⟨st.next, 0, l.length + m.length, l.map u8v ++ m.map u8v, by rw [List.length_append]; rfl, by rw [List.length_append]; exact Nat.le_refl _, get_new_same _ _, by simp, ?_⟩)) (.inr ⟨rfl, Nat.le_refl _⟩) (Nat.le_succ _) fun i _ hi => get_new_ne _ _ _ (by omega)
    rw [List.drop_zero, List.take_of_length_le (by simp), List.map_append]
end

theorem rk_strB {st : St} {v : Value} {l : List UInt8} {K : Value → Prop} (h : Bys st v l) (hl : l ≠ []) : ropK .bytesToStr [v] st K = K (.string (bs l)) := by
  rcases h with ⟨h, h'⟩ | ⟨b, o, cap, cs, g, ro, q1, q2, q3, q4, q5, q6⟩ | ⟨ad, h, h'⟩
  · subst h h'; rfl
  · subst q1
    exact rk_toStr q3 q6 q5 K
  · exact absurd h' hl
theorem q_take {l : List UInt8} {j : Nat} {c : UInt8} (h : l[j]? = some c) : (l.take (j + 1)).map qB = (l.take j).map qB ++ [qB c] := by
  rw [List.take_add_one, h]
  simp
theorem esc_one (l : List UInt8) (c : UInt8) : escL (l ++ [c]) = escL l ++ escB c := by
  rw [escL_append]
  simp [escL]
theorem any_one (l : List UInt8) (c : UInt8) : (l ++ [c]).any spc = (l.any spc || spc c) := by simp
theorem escL_nospc (l : List UInt8) (h : l.any spc = false) : escL l = l := by
  refine escL_none l ?_
  unfold nesc
  rw [List.countP_eq_zero]
  intro c hc he
  have hs : spc c = false := by
    rw [List.any_eq_false] at h
    have := h c hc
    cases hh : spc c with
    | true => exact absurd hh this
    | false => rfl
  rcases isE_iff.1 he with rfl | rfl | rfl
  · exact absurd hs (by decide)
  · exact absurd hs (by decide)
  · exact absurd hs (by decide)
theorem spc_no {c : UInt8} (h : c.toNat ≠ 10 ∧ c.toNat ≠ 32 ∧ c.toNat ≠ 34 ∧ c.toNat ≠ 61 ∧ c.toNat ≠ 42) : spc c = false := by
  simp only [spc, List.contains_cons, List.contains_nil, Bool.or_false, Bool.or_eq_false_iff, beq_eq_false_iff_ne]
  refine ⟨?_, ?_, ?_, ?_, ?_⟩ <;> (intro e; subst e; simp at h)
theorem escB_no {c : UInt8} (h : c.toNat ≠ 10 ∧ c.toNat ≠ 34 ∧ c.toNat ≠ 42) : escB c = [c] := by
  refine escB_n ?_
  cases hh : isE c with
  | false => rfl
  | true =>
    rcases isE_iff.1 hh with rfl | rfl | rfl <;> simp at h

attribute [local irreducible] callO wopK ropK popK opK grpsE listE sx Runs

section
variable {st : St} {K : Value → St → Prop}

theorem kQuoteR (n : Nat) (s : ByteArray) (hs : s.size ≤ 40000) (h : ∀ st', Frm st st' → K (.string (bs (quoteL s.data.toList))) st') :
    callK (callO T0 orc fns 100000 (n + 1)) 27 [.string s] st K := by
  refine fn_runs (fn := g27) ?_ ?_ ?_
  · rfl
  · rfl
  unfold g27
  have hsz := size_list s
  have e0 : (s = ByteArray.empty) = (s.data.toList = []) := propext ⟨fun e => by rw [e]; rfl, fun e => ByteArray.ext (by simpa using e)⟩
  simp (disch := omega) only [↓sxA, ↓wk_store, sxB, sxP, Nat.reduceLeDiff, reduceCtorEq, Nat.reduceEqDiff, Nat.reduceAdd, Int.reduceLT, Int.reduceLE, Int.reduceEq, Nat.reduceLT, Int.reduceToNat, Int.reduceAdd, Int.reduceSub, ↓reduceIte]
  by_cases h0 : s = ByteArray.empty
  · subst h0
    rw [if_pos rfl]
    refine loop_rule [0, 3, 4, 5] (fun vs s' => vs = [.string .empty, .bool false, .slice (some ⟨st.next, 0, none⟩) 1 1, .int .i64 0] ∧ s' = st.new (.row [.int .u8 34] 0 false)) (fun vs _ => 0) ?_ ?_ ?_
    · rfl
    · exact ⟨_, rfl, ⟨rfl, rfl⟩, by decide⟩
    · rintro vs s' ⟨rfl, rfl⟩
      show sx _ _ _ _ _ [(0, _), (3, _), (4, _), (5, _)] _ _ _ _
      simp (disch := omega) only [↓sxA, ↓wk_store, sxB, sxP, Nat.reduceLeDiff, reduceCtorEq, Nat.reduceEqDiff, Nat.reduceAdd, Int.reduceLT, Int.reduceLE, Int.reduceEq, Nat.reduceLT, Int.reduceToNat, Int.reduceAdd, Int.reduceSub, ↓reduceIte, show ByteArray.empty.size = 0 from rfl]
      have hQ : GQ (st.new (.row [.int .u8 34] 0 false)) (.slice (some ⟨st.next, 0, none⟩) 1 1) [34] := .inr ⟨st.next, rfl, get_new_same _ _, by decide⟩
      have F := Frm.new st (.row [.int .u8 34] 0 false)
      have n0 : (st.new (.row [.int .u8 34] 0 false)).next = st.next + 1 := rfl
      rw [← n0]
      generalize st.new (.row [.int .u8 34] 0 false) = s' at hQ F n0 ⊢
      have F1 := Frm.new s' (.row [.int .u8 34] 0 false)
      have g1 := get_new_same s' (.row [.int .u8 34] 0 false)
      have n1 : (s'.new (.row [.int .u8 34] 0 false)).next = s'.next + 1 := rfl
      generalize s'.new (.row [.int .u8 34] 0 false) = s1 at F1 g1 n1 ⊢
      have hB : Bys s1 (.slice (some ⟨s'.next, 0, none⟩) 1 1) [34] := .inr (.inl ⟨s'.next, 0, 1, [.int .u8 34], 0, false, rfl, by decide, g1, .inl rfl, by decide, rfl⟩)
      refine appendQ (hQ.keep fun i hi => F1.old i (by have : i = st.next := by simpa [ow] using hi
                                                       omega)) hB (by decide) (by decide) fun v' s2 k1 k2 k3 k4 => ?_
      have rs := fun K => rk_str (K := K) k1
      simp (disch := omega) only [↓sxA, ↓wk_store, sxB, sxP, Nat.reduceLeDiff, reduceCtorEq, Nat.reduceEqDiff, Nat.reduceAdd, Int.reduceLT, Int.reduceLE, Int.reduceEq, Nat.reduceLT, Int.reduceToNat, Int.reduceAdd, Int.reduceSub, ↓reduceIte, ↓rs]
      refine h s2 ⟨by omega, fun i hi => ?_⟩
      rw [k4 i (by show i + 1 ≠ st.next + 1; omega) (by omega), F1.old i (by omega), F.old i hi]
  rw [if_neg h0]
  have h0' : s.data.toList ≠ [] := fun e => h0 (e0 ▸ e)
  refine loop_rule [0, 3, 4, 5] (fun vs s' => ∃ (j : Nat) (v : Value), vs = [.string s, .bool (decide (s.data.toList ≠ []) && !((s.data.toList.take j).map qB).any spc), v, .int .i64 (j : Nat)] ∧ j ≤ s.size ∧ GQ s' v (34 :: escL ((s.data.toList.take j).map qB)) ∧ Frm st s' ∧ st.next + 1 ≤ ow v ∧ ow v ≤ s'.next) (fun vs _ => match lget vs 3 with
      | .int _ k => ((s.size : Int) - k).toNat
      | _ => 0) ?_ ?_ ?_
  · rfl
  · refine ⟨_, rfl, ⟨0, .slice (some ⟨st.next, 0, none⟩) 1 1, ?_, Nat.zero_le _, .inr ⟨st.next, rfl, get_new_same _ _, by simp⟩, Frm.new _ _, Nat.le_refl _, Nat.le_refl _⟩, ?_⟩
    · rw [decide_eq_true h0']
      rfl
    · show ((s.size : Int) - 0).toNat < 100000
      omega
  · rintro vs s' ⟨j, v, rfl, j1, hQ, F, hv1, hv2⟩
    show sx _ _ _ _ _ [(0, _), (3, _), (4, _), (5, _)] _ _ _ _
    by_cases hj : j < s.size
    · obtain ⟨c, hc, hgd, hb⟩ := byte_at s j hj
      have qt := q_take hc
      have ll : (escL ((s.data.toList.take j).map qB)).length ≤ 80000 := by
        have h1 := escL_len ((s.data.toList.take j).map qB)
        have h2 := nesc_le ((s.data.toList.take j).map qB)
        rw [List.length_map, List.length_take] at h1 h2
        omega
      have hmeas : ((s.size : Int) - ((j : Int) + 1)).toNat < ((s.size : Int) - j).toNat := by omega
      by_cases c1 : (c.toNat : Int) = 10
      · have q1 : qB c = 10 := (qB_keep (.inl (by omega))).trans (u8_eq (n := 10) (by omega))
        have q2 : escB (10 : UInt8) = [42, 110] := rfl
        have q3 : spc (10 : UInt8) = true := rfl
        have t10 : ((c.toNat : Int) = 10) = True := eq_true (by omega)
        have tlo : ((c.toNat : Int) < 32) = True := eq_true (by omega)
        have thi : ((126 : Int) < c.toNat) = False := eq_false (by omega)
        have t32 : ((c.toNat : Int) = 32) = False := eq_false (by omega)
        have t34 : ((c.toNat : Int) = 34) = False := eq_false (by omega)
        have t61 : ((c.toNat : Int) = 61) = False := eq_false (by omega)
        have t42 : ((c.toNat : Int) = 42) = False := eq_false (by omega)
        simp (disch := omega) only [q_indexStr, Int.toNat_natCast, hgd, ↓sxA, ↓wk_store, sxB, sxP, Nat.reduceLeDiff, reduceCtorEq, Nat.reduceEqDiff, Nat.reduceAdd, Int.reduceLT, Int.reduceLE, Int.reduceEq, Nat.reduceLT, Int.reduceToNat, Int.reduceAdd, Int.reduceSub, ↓reduceIte, t10, tlo, thi, t32, t34, t61, t42]
        have F1 := Frm.new s' (.row [.int .u8 42, .int .u8 110] 0 false)
        have g1 := get_new_same s' (.row [.int .u8 42, .int .u8 110] 0 false)
        have n1 : (s'.new (.row [.int .u8 42, .int .u8 110] 0 false)).next = s'.next + 1 := rfl
        generalize s'.new (.row [.int .u8 42, .int .u8 110] 0 false) = s1 at F1 g1 n1 ⊢
        have hB : Bys s1 (.slice (some ⟨s'.next, 0, none⟩) 2 2) [42, 110] := .inr (.inl ⟨s'.next, 0, 2, [.int .u8 42, .int .u8 110], 0, false, rfl, by simp, g1, .inl rfl, by simp, by first | rfl | (simp [u8v]; omega)⟩)
        refine appendQ (hQ.keep fun i hi => F1.old i (by omega)) hB (by simp) (by simp only [List.length_cons, List.length_nil]; omega) fun v' s2 k1 k2 k3 k4 => ?_
        simp (disch := omega) only [↓sxA, ↓wk_store, sxB, sxP, Nat.reduceLeDiff, reduceCtorEq, Nat.reduceEqDiff, Nat.reduceAdd, Int.reduceLT, Int.reduceLE, Int.reduceEq, Nat.reduceLT, Int.reduceToNat, Int.reduceAdd, Int.reduceSub, ↓reduceIte]
        refine ⟨_, rfl, ⟨j + 1, v', ?_, hj, .inl ?_, ⟨by omega, fun i hi => ?_⟩, by omega, by omega⟩, hmeas⟩
        · rw [qt, any_one, q1, q3]
          simp
        · rw [qt, esc_one, q1, q2]
          exact k1
        · rw [k4 i (by omega) (by omega), F1.old i (by omega), F.old i hi]
      by_cases c2 : (c.toNat : Int) < 32
      · have q1 : qB c = 63 := qB_q (by omega) (by omega)
        have q2 : escB (63 : UInt8) = [63] := rfl
        have q3 : spc (63 : UInt8) = false := rfl
        have t10 : ((c.toNat : Int) = 10) = False := eq_false (by omega)
        have tlo : ((c.toNat : Int) < 32) = True := eq_true (by omega)
        simp (disch := omega) only [q_indexStr, Int.toNat_natCast, hgd, ↓sxA, ↓wk_store, sxB, sxP, Nat.reduceLeDiff, reduceCtorEq, Nat.reduceEqDiff, Nat.reduceAdd, Int.reduceLT, Int.reduceLE, Int.reduceEq, Nat.reduceLT, Int.reduceToNat, Int.reduceAdd, Int.reduceSub, ↓reduceIte, t10, tlo]
        have F1 := Frm.new s' (.row [.int .u8 63] 0 false)
        have g1 := get_new_same s' (.row [.int .u8 63] 0 false)
        have n1 : (s'.new (.row [.int .u8 63] 0 false)).next = s'.next + 1 := rfl
        generalize s'.new (.row [.int .u8 63] 0 false) = s1 at F1 g1 n1 ⊢
        have hB : Bys s1 (.slice (some ⟨s'.next, 0, none⟩) 1 1) [63] := .inr (.inl ⟨s'.next, 0, 1, [.int .u8 63], 0, false, rfl, by simp, g1, .inl rfl, by simp, by first | rfl | (simp [u8v]; omega)⟩)
        refine appendQ (hQ.keep fun i hi => F1.old i (by omega)) hB (by simp) (by simp only [List.length_cons, List.length_nil]; omega) fun v' s2 k1 k2 k3 k4 => ?_
        simp (disch := omega) only [↓sxA, ↓wk_store, sxB, sxP, Nat.reduceLeDiff, reduceCtorEq, Nat.reduceEqDiff, Nat.reduceAdd, Int.reduceLT, Int.reduceLE, Int.reduceEq, Nat.reduceLT, Int.reduceToNat, Int.reduceAdd, Int.reduceSub, ↓reduceIte]
        refine ⟨_, rfl, ⟨j + 1, v', ?_, hj, .inl ?_, ⟨by omega, fun i hi => ?_⟩, by omega, by omega⟩, hmeas⟩
        · rw [qt, any_one, q1, q3]
          simp
        · rw [qt, esc_one, q1, q2]
          exact k1
        · rw [k4 i (by omega) (by omega), F1.old i (by omega), F.old i hi]
      by_cases c3 : (126 : Int) < c.toNat
      · have q1 : qB c = 63 := qB_q (by omega) (by omega)
        have q2 : escB (63 : UInt8) = [63] := rfl
        have q3 : spc (63 : UInt8) = false := rfl
        have t10 : ((c.toNat : Int) = 10) = False := eq_false (by omega)
        have tlo : ((c.toNat : Int) < 32) = False := eq_false (by omega)
        have thi : ((126 : Int) < c.toNat) = True := eq_true (by omega)
        simp (disch := omega) only [q_indexStr, Int.toNat_natCast, hgd, ↓sxA, ↓wk_store, sxB, sxP, Nat.reduceLeDiff, reduceCtorEq, Nat.reduceEqDiff, Nat.reduceAdd, Int.reduceLT, Int.reduceLE, Int.reduceEq, Nat.reduceLT, Int.reduceToNat, Int.reduceAdd, Int.reduceSub, ↓reduceIte, t10, tlo, thi]
        have F1 := Frm.new s' (.row [.int .u8 63] 0 false)
        have g1 := get_new_same s' (.row [.int .u8 63] 0 false)
        have n1 : (s'.new (.row [.int .u8 63] 0 false)).next = s'.next + 1 := rfl
        generalize s'.new (.row [.int .u8 63] 0 false) = s1 at F1 g1 n1 ⊢
        have hB : Bys s1 (.slice (some ⟨s'.next, 0, none⟩) 1 1) [63] := .inr (.inl ⟨s'.next, 0, 1, [.int .u8 63], 0, false, rfl, by simp, g1, .inl rfl, by simp, by first | rfl | (simp [u8v]; omega)⟩)
        refine appendQ (hQ.keep fun i hi => F1.old i (by omega)) hB (by simp) (by simp only [List.length_cons, List.length_nil]; omega) fun v' s2 k1 k2 k3 k4 => ?_
        simp (disch := omega) only [↓sxA, ↓wk_store, sxB, sxP, Nat.reduceLeDiff, reduceCtorEq, Nat.reduceEqDiff, Nat.reduceAdd, Int.reduceLT, Int.reduceLE, Int.reduceEq, Nat.reduceLT, Int.reduceToNat, Int.reduceAdd, Int.reduceSub, ↓reduceIte]
        refine ⟨_, rfl, ⟨j + 1, v', ?_, hj, .inl ?_, ⟨by omega, fun i hi => ?_⟩, by omega, by omega⟩, hmeas⟩
        · rw [qt, any_one, q1, q3]
          simp
        · rw [qt, esc_one, q1, q2]
          exact k1
        · rw [k4 i (by omega) (by omega), F1.old i (by omega), F.old i hi]
      by_cases c4 : (c.toNat : Int) = 32
      · have q1 : qB c = 32 := (qB_keep (.inr (by omega))).trans (u8_eq (n := 32) (by omega))
        have q2 : escB (32 : UInt8) = [32] := rfl
        have q3 : spc (32 : UInt8) = true := rfl
        have t10 : ((c.toNat : Int) = 10) = False := eq_false (by omega)
        have tlo : ((c.toNat : Int) < 32) = False := eq_false (by omega)
        have thi : ((126 : Int) < c.toNat) = False := eq_false (by omega)
        have t32 : ((c.toNat : Int) = 32) = True := eq_true (by omega)
        have t34 : ((c.toNat : Int) = 34) = False := eq_false (by omega)
        have t61 : ((c.toNat : Int) = 61) = False := eq_false (by omega)
        have t42 : ((c.toNat : Int) = 42) = False := eq_false (by omega)
        simp (disch := omega) only [q_indexStr, Int.toNat_natCast, hgd, ↓sxA, ↓wk_store, sxB, sxP, Nat.reduceLeDiff, reduceCtorEq, Nat.reduceEqDiff, Nat.reduceAdd, Int.reduceLT, Int.reduceLE, Int.reduceEq, Nat.reduceLT, Int.reduceToNat, Int.reduceAdd, Int.reduceSub, ↓reduceIte, t10, tlo, thi, t32, t34, t61, t42]
        have F1 := Frm.new s' (.row [.int .u8 (c.toNat : Int)] 0 false)
        have g1 := get_new_same s' (.row [.int .u8 (c.toNat : Int)] 0 false)
        have n1 : (s'.new (.row [.int .u8 (c.toNat : Int)] 0 false)).next = s'.next + 1 := rfl
        generalize s'.new (.row [.int .u8 (c.toNat : Int)] 0 false) = s1 at F1 g1 n1 ⊢
        have hB : Bys s1 (.slice (some ⟨s'.next, 0, none⟩) 1 1) [32] := .inr (.inl ⟨s'.next, 0, 1, [.int .u8 (c.toNat : Int)], 0, false, rfl, by simp, g1, .inl rfl, by simp, by first | rfl | (simp [u8v]; omega)⟩)
        refine appendQ (hQ.keep fun i hi => F1.old i (by omega)) hB (by simp) (by simp only [List.length_cons, List.length_nil]; omega) fun v' s2 k1 k2 k3 k4 => ?_
        simp (disch := omega) only [↓sxA, ↓wk_store, sxB, sxP, Nat.reduceLeDiff, reduceCtorEq, Nat.reduceEqDiff, Nat.reduceAdd, Int.reduceLT, Int.reduceLE, Int.reduceEq, Nat.reduceLT, Int.reduceToNat, Int.reduceAdd, Int.reduceSub, ↓reduceIte]
        refine ⟨_, rfl, ⟨j + 1, v', ?_, hj, .inl ?_, ⟨by omega, fun i hi => ?_⟩, by omega, by omega⟩, hmeas⟩
        · rw [qt, any_one, q1, q3]
          simp
        · rw [qt, esc_one, q1, q2]
          exact k1
        · rw [k4 i (by omega) (by omega), F1.old i (by omega), F.old i hi]
      by_cases c5 : (c.toNat : Int) = 34
      · have q1 : qB c = 34 := (qB_keep (.inr (by omega))).trans (u8_eq (n := 34) (by omega))
        have q2 : escB (34 : UInt8) = [42, 34] := rfl
        have q3 : spc (34 : UInt8) = true := rfl
        have t10 : ((c.toNat : Int) = 10) = False := eq_false (by omega)
        have tlo : ((c.toNat : Int) < 32) = False := eq_false (by omega)
        have thi : ((126 : Int) < c.toNat) = False := eq_false (by omega)
        have t32 : ((c.toNat : Int) = 32) = False := eq_false (by omega)
        have t34 : ((c.toNat : Int) = 34) = True := eq_true (by omega)
        have t61 : ((c.toNat : Int) = 61) = False := eq_false (by omega)
        have t42 : ((c.toNat : Int) = 42) = False := eq_false (by omega)
        simp (disch := omega) only [q_indexStr, Int.toNat_natCast, hgd, ↓sxA, ↓wk_store, sxB, sxP, Nat.reduceLeDiff, reduceCtorEq, Nat.reduceEqDiff, Nat.reduceAdd, Int.reduceLT, Int.reduceLE, Int.reduceEq, Nat.reduceLT, Int.reduceToNat, Int.reduceAdd, Int.reduceSub, ↓reduceIte, t10, tlo, thi, t32, t34, t61, t42]
        have F1 := Frm.new s' (.row [.int .u8 42, .int .u8 (c.toNat : Int)] 0 false)
        have g1 := get_new_same s' (.row [.int .u8 42, .int .u8 (c.toNat : Int)] 0 false)
        have n1 : (s'.new (.row [.int .u8 42, .int .u8 (c.toNat : Int)] 0 false)).next = s'.next + 1 := rfl
        generalize s'.new (.row [.int .u8 42, .int .u8 (c.toNat : Int)] 0 false) = s1 at F1 g1 n1 ⊢
        have hB : Bys s1 (.slice (some ⟨s'.next, 0, none⟩) 2 2) [42, 34] := .inr (.inl ⟨s'.next, 0, 2, [.int .u8 42, .int .u8 (c.toNat : Int)], 0, false, rfl, by simp, g1, .inl rfl, by simp, by first | rfl | (simp [u8v]; omega)⟩)
        refine appendQ (hQ.keep fun i hi => F1.old i (by omega)) hB (by simp) (by simp only [List.length_cons, List.length_nil]; omega) fun v' s2 k1 k2 k3 k4 => ?_
        simp (disch := omega) only [↓sxA, ↓wk_store, sxB, sxP, Nat.reduceLeDiff, reduceCtorEq, Nat.reduceEqDiff, Nat.reduceAdd, Int.reduceLT, Int.reduceLE, Int.reduceEq, Nat.reduceLT, Int.reduceToNat, Int.reduceAdd, Int.reduceSub, ↓reduceIte]
        refine ⟨_, rfl, ⟨j + 1, v', ?_, hj, .inl ?_, ⟨by omega, fun i hi => ?_⟩, by omega, by omega⟩, hmeas⟩
        · rw [qt, any_one, q1, q3]
          simp
        · rw [qt, esc_one, q1, q2]
          exact k1
        · rw [k4 i (by omega) (by omega), F1.old i (by omega), F.old i hi]
      by_cases c6 : (c.toNat : Int) = 61
      · have q1 : qB c = 61 := (qB_keep (.inr (by omega))).trans (u8_eq (n := 61) (by omega))
        have q2 : escB (61 : UInt8) = [61] := rfl
        have q3 : spc (61 : UInt8) = true := rfl
        have t10 : ((c.toNat : Int) = 10) = False := eq_false (by omega)
        have tlo : ((c.toNat : Int) < 32) = False := eq_false (by omega)
        have thi : ((126 : Int) < c.toNat) = False := eq_false (by omega)
        have t32 : ((c.toNat : Int) = 32) = False := eq_false (by omega)
        have t34 : ((c.toNat : Int) = 34) = False := eq_false (by omega)
        have t61 : ((c.toNat : Int) = 61) = True := eq_true (by omega)
        have t42 : ((c.toNat : Int) = 42) = False := eq_false (by omega)
        simp (disch := omega) only [q_indexStr, Int.toNat_natCast, hgd, ↓sxA, ↓wk_store, sxB, sxP, Nat.reduceLeDiff, reduceCtorEq, Nat.reduceEqDiff, Nat.reduceAdd, Int.reduceLT, Int.reduceLE, Int.reduceEq, Nat.reduceLT, Int.reduceToNat, Int.reduceAdd, Int.reduceSub, ↓reduceIte, t10, tlo, thi, t32, t34, t61, t42]
        have F1 := Frm.new s' (.row [.int .u8 (c.toNat : Int)] 0 false)
        have g1 := get_new_same s' (.row [.int .u8 (c.toNat : Int)] 0 false)
        have n1 : (s'.new (.row [.int .u8 (c.toNat : Int)] 0 false)).next = s'.next + 1 := rfl
        generalize s'.new (.row [.int .u8 (c.toNat : Int)] 0 false) = s1 at F1 g1 n1 ⊢
        have hB : Bys s1 (.slice (some ⟨s'.next, 0, none⟩) 1 1) [61] := .inr (.inl ⟨s'.next, 0, 1, [.int .u8 (c.toNat : Int)], 0, false, rfl, by simp, g1, .inl rfl, by simp, by first | rfl | (simp [u8v]; omega)⟩)
        refine appendQ (hQ.keep fun i hi => F1.old i (by omega)) hB (by simp) (by simp only [List.length_cons, List.length_nil]; omega) fun v' s2 k1 k2 k3 k4 => ?_
        simp (disch := omega) only [↓sxA, ↓wk_store, sxB, sxP, Nat.reduceLeDiff, reduceCtorEq, Nat.reduceEqDiff, Nat.reduceAdd, Int.reduceLT, Int.reduceLE, Int.reduceEq, Nat.reduceLT, Int.reduceToNat, Int.reduceAdd, Int.reduceSub, ↓reduceIte]
        refine ⟨_, rfl, ⟨j + 1, v', ?_, hj, .inl ?_, ⟨by omega, fun i hi => ?_⟩, by omega, by omega⟩, hmeas⟩
        · rw [qt, any_one, q1, q3]
          simp
        · rw [qt, esc_one, q1, q2]
          exact k1
        · rw [k4 i (by omega) (by omega), F1.old i (by omega), F.old i hi]
      by_cases c7 : (c.toNat : Int) = 42
      · have q1 : qB c = 42 := (qB_keep (.inr (by omega))).trans (u8_eq (n := 42) (by omega))
        have q2 : escB (42 : UInt8) = [42, 42] := rfl
        have q3 : spc (42 : UInt8) = true := rfl
        have t10 : ((c.toNat : Int) = 10) = False := eq_false (by omega)
        have tlo : ((c.toNat : Int) < 32) = False := eq_false (by omega)
        have thi : ((126 : Int) < c.toNat) = False := eq_false (by omega)
        have t32 : ((c.toNat : Int) = 32) = False := eq_false (by omega)
        have t34 : ((c.toNat : Int) = 34) = False := eq_false (by omega)
        have t61 : ((c.toNat : Int) = 61) = False := eq_false (by omega)
        have t42 : ((c.toNat : Int) = 42) = True := eq_true (by omega)
        simp (disch := omega) only [q_indexStr, Int.toNat_natCast, hgd, ↓sxA, ↓wk_store, sxB, sxP, Nat.reduceLeDiff, reduceCtorEq, Nat.reduceEqDiff, Nat.reduceAdd, Int.reduceLT, Int.reduceLE, Int.reduceEq, Nat.reduceLT, Int.reduceToNat, Int.reduceAdd, Int.reduceSub, ↓reduceIte, t10, tlo, thi, t32, t34, t61, t42]
        have F1 := Frm.new s' (.row [.int .u8 42, .int .u8 (c.toNat : Int)] 0 false)
        have g1 := get_new_same s' (.row [.int .u8 42, .int .u8 (c.toNat : Int)] 0 false)
        have n1 : (s'.new (.row [.int .u8 42, .int .u8 (c.toNat : Int)] 0 false)).next = s'.next + 1 := rfl
        generalize s'.new (.row [.int .u8 42, .int .u8 (c.toNat : Int)] 0 false) = s1 at F1 g1 n1 ⊢
        have hB : Bys s1 (.slice (some ⟨s'.next, 0, none⟩) 2 2) [42, 42] := .inr (.inl ⟨s'.next, 0, 2, [.int .u8 42, .int .u8 (c.toNat : Int)], 0, false, rfl, by simp, g1, .inl rfl, by simp, by first | rfl | (simp [u8v]; omega)⟩)
        refine appendQ (hQ.keep fun i hi => F1.old i (by omega)) hB (by simp) (by simp only [List.length_cons, List.length_nil]; omega) fun v' s2 k1 k2 k3 k4 => ?_
        simp (disch := omega) only [↓sxA, ↓wk_store, sxB, sxP, Nat.reduceLeDiff, reduceCtorEq, Nat.reduceEqDiff, Nat.reduceAdd, Int.reduceLT, Int.reduceLE, Int.reduceEq, Nat.reduceLT, Int.reduceToNat, Int.reduceAdd, Int.reduceSub, ↓reduceIte]
        refine ⟨_, rfl, ⟨j + 1, v', ?_, hj, .inl ?_, ⟨by omega, fun i hi => ?_⟩, by omega, by omega⟩, hmeas⟩
        · rw [qt, any_one, q1, q3]
          simp
        · rw [qt, esc_one, q1, q2]
          exact k1
        · rw [k4 i (by omega) (by omega), F1.old i (by omega), F.old i hi]
      have q1 : qB c = c := qB_keep (.inr (by omega))
      have q2 : escB (c : UInt8) = [c] := escB_no (by omega)
      have q3 : spc (c : UInt8) = false := spc_no (by omega)
      have t10 : ((c.toNat : Int) = 10) = False := eq_false (by omega)
      have tlo : ((c.toNat : Int) < 32) = False := eq_false (by omega)
      have thi : ((126 : Int) < c.toNat) = False := eq_false (by omega)
      have t32 : ((c.toNat : Int) = 32) = False := eq_false (by omega)
      have t34 : ((c.toNat : Int) = 34) = False := eq_false (by omega)
      have t61 : ((c.toNat : Int) = 61) = False := eq_false (by omega)
      have t42 : ((c.toNat : Int) = 42) = False := eq_false (by omega)
      simp (disch := omega) only [q_indexStr, Int.toNat_natCast, hgd, ↓sxA, ↓wk_store, sxB, sxP, Nat.reduceLeDiff, reduceCtorEq, Nat.reduceEqDiff, Nat.reduceAdd, Int.reduceLT, Int.reduceLE, Int.reduceEq, Nat.reduceLT, Int.reduceToNat, Int.reduceAdd, Int.reduceSub, ↓reduceIte, t10, tlo, thi, t32, t34, t61, t42]
      have F1 := Frm.new s' (.row [.int .u8 (c.toNat : Int)] 0 false)
      have g1 := get_new_same s' (.row [.int .u8 (c.toNat : Int)] 0 false)
      have n1 : (s'.new (.row [.int .u8 (c.toNat : Int)] 0 false)).next = s'.next + 1 := rfl
      generalize s'.new (.row [.int .u8 (c.toNat : Int)] 0 false) = s1 at F1 g1 n1 ⊢
      have hB : Bys s1 (.slice (some ⟨s'.next, 0, none⟩) 1 1) [c] := .inr (.inl ⟨s'.next, 0, 1, [.int .u8 (c.toNat : Int)], 0, false, rfl, by simp, g1, .inl rfl, by simp, by first | rfl | (simp [u8v]; omega)⟩)
      refine appendQ (hQ.keep fun i hi => F1.old i (by omega)) hB (by simp) (by simp only [List.length_cons, List.length_nil]; omega) fun v' s2 k1 k2 k3 k4 => ?_
      simp (disch := omega) only [↓sxA, ↓wk_store, sxB, sxP, Nat.reduceLeDiff, reduceCtorEq, Nat.reduceEqDiff, Nat.reduceAdd, Int.reduceLT, Int.reduceLE, Int.reduceEq, Nat.reduceLT, Int.reduceToNat, Int.reduceAdd, Int.reduceSub, ↓reduceIte]
      refine ⟨_, rfl, ⟨j + 1, v', ?_, hj, .inl ?_, ⟨by omega, fun i hi => ?_⟩, by omega, by omega⟩, hmeas⟩
      · rw [qt, any_one, q1, q3]
        simp
      · rw [qt, esc_one, q1, q2]
        exact k1
      · rw [k4 i (by omega) (by omega), F1.old i (by omega), F.old i hi]
    · have e : s.data.toList.take j = s.data.toList := List.take_of_length_le (by omega)
      rw [e] at hQ ⊢
      rw [decide_eq_true h0', Bool.true_and]
      cases hq : (s.data.toList.map qB).any spc with
      | false =>
        rw [escL_nospc _ hq] at hQ
        have hh := h s' F
        unfold quoteL at hh
        rw [if_pos ⟨h0', hq⟩] at hh
        have sl := fun K => sllo_bys (K := K) hQ.bys .i64 1 (by decide) (by simp only [List.length_cons]; omega)
        have rs := fun K => rk_strB (K := K) (blo_bys hQ.bys 1 (by simp)) (fun e => h0' (List.map_eq_nil_iff.1 e))
        rw [show (List.drop 1 (34 :: s.data.toList.map qB)) = s.data.toList.map qB from rfl] at rs
        simp (disch := omega) only [↓sxA, ↓wk_store, sxB, sxP, Nat.reduceLeDiff, reduceCtorEq, Nat.reduceEqDiff, Nat.reduceAdd, Int.reduceLT, Int.reduceLE, Int.reduceEq, Nat.reduceLT, Int.reduceToNat, Int.reduceAdd, Int.reduceSub, ↓reduceIte, Bool.not_false, ↓sl, show Int.toNat 1 = 1 from rfl, ↓rs]
        exact hh
      | true =>
        have hh := fun s' F => h s' F
        unfold quoteL at hh
        rw [if_neg (by simp [hq])] at hh
        simp (disch := omega) only [↓sxA, ↓wk_store, sxB, sxP, Nat.reduceLeDiff, reduceCtorEq, Nat.reduceEqDiff, Nat.reduceAdd, Int.reduceLT, Int.reduceLE, Int.reduceEq, Nat.reduceLT, Int.reduceToNat, Int.reduceAdd, Int.reduceSub, ↓reduceIte, Bool.not_true]
        have ll : (escL (s.data.toList.map qB)).length ≤ 80000 := by
          have h1 := escL_len (s.data.toList.map qB)
          have h2 := nesc_le (s.data.toList.map qB)
          rw [List.length_map] at h1 h2
          omega
        have F1 := Frm.new s' (.row [.int .u8 34] 0 false)
        have g1 := get_new_same s' (.row [.int .u8 34] 0 false)
        have n1 : (s'.new (.row [.int .u8 34] 0 false)).next = s'.next + 1 := rfl
        generalize s'.new (.row [.int .u8 34] 0 false) = s1 at F1 g1 n1 ⊢
        have hB : Bys s1 (.slice (some ⟨s'.next, 0, none⟩) 1 1) [34] := .inr (.inl ⟨s'.next, 0, 1, [.int .u8 34], 0, false, rfl, by decide, g1, .inl rfl, by decide, rfl⟩)
        refine appendQ (hQ.keep fun i hi => F1.old i (by omega)) hB (by simp) (by simp only [List.length_cons, List.length_nil]; omega) fun v' s2 k1 k2 k3 k4 => ?_
        have rs := fun K => rk_str (K := K) k1
        simp (disch := omega) only [↓sxA, ↓wk_store, sxB, sxP, Nat.reduceLeDiff, reduceCtorEq, Nat.reduceEqDiff, Nat.reduceAdd, Int.reduceLT, Int.reduceLE, Int.reduceEq, Nat.reduceLT, Int.reduceToNat, Int.reduceAdd, Int.reduceSub, ↓reduceIte, ↓rs]
        refine hh s2 ⟨by omega, fun i hi => ?_⟩
        rw [k4 i (by omega) (by omega), F1.old i (by omega), F.old i hi]
end
end Go.Proofs.YtdmemibnphcedaaGreatDoor
end
section
set_option linter.unusedSimpArgs false
set_option linter.unusedVariables false
set_option maxRecDepth 10000
set_option linter.unusedSectionVars false
namespace Go.Proofs.YtdmemibnphcedaaGreatDoor
open Go.Am

theorem pr_fin {L : List UInt8} {p : Nat} (hp : p ≤ L.length) (h : nxt L p = .fin) : Pr L p L.length := by
  have := blk_pr hp
  rw [(nxt_fin hp).1 h] at this
  exact this
theorem WsR.pr {L : List UInt8} {p : Nat} {r : Option (List (List UInt8 × Bool))} (h : WsR L p r) : p ≤ L.length → ∀ l, r = some l → Pr L p L.length := by
  induction h with
  | fin h => intro hp l _; exact pr_fin hp h
  | bad h => intro hp l e; cases e
  | wd h k ih =>
    intro hp l e
    rw [Option.map_eq_some_iff] at e
    obtain ⟨l', e1, _⟩ := e
    obtain ⟨_, _, _, n4, n5⟩ := nxt_wd hp h
    exact n5.split (ih n4 l' e1)
theorem pr_all {L : List UInt8} (h : Pr L 0 L.length) : L.all prn = true := by
  rw [List.all_eq_true]
  intro c hc
  obtain ⟨i, hi, rfl⟩ := List.getElem_of_mem hc
  exact h i (Nat.zero_le _) hi _ (List.getElem?_eq_getElem hi)

theorem WO.of_none {s : ByteArray} (hs : s.size ≤ 1000) (h : WsR s.data.toList 0 none) : WO s [] 250 := by
  by_cases hr : readA s = 0
  · exact .inr (.inl ⟨hr, wordsO_eq h, rfl, rfl⟩)
  · refine .inl ⟨hr, rfl, ?_⟩
    unfold readA at hr ⊢
    rw [if_neg (by omega)] at hr ⊢
    split
    · rename_i hc; rw [if_pos hc] at hr; exact (hr rfl).elim
    · rfl
theorem WO.of_some {s : ByteArray} {l : List (List UInt8 × Bool)} (hs : s.size ≤ 1000) (h : WsR s.data.toList 0 (some l)) : WO s l 0 := by
  refine .inr (.inr ⟨?_, wordsO_eq h, rfl⟩)
  unfold readA
  rw [if_neg (by omega), if_pos (pr_all (h.pr (Nat.zero_le _) l rfl))]
theorem WO.of_long {s : ByteArray} (hs : 1000 < s.size) : WO s [] 2 := by
  have : readA s = 2 := by unfold readA; rw [if_pos hs]
  exact .inl ⟨by rw [this]; decide, rfl, this.symm⟩

attribute [local irreducible] callO wopK ropK popK opK grpsE listE sx Runs

/-- between two words -/
def WI (s0 : St) (s : ByteArray) (vs : List Value) (st : St) : Prop :=
  ∃ (p : Nat) (l : List (List UInt8 × Bool)) (v u : Value), vs = [.string s, v, u, .int .i64 (p : Nat)] ∧ p ≤ s.size ∧ (∀ r, WsR s.data.toList p r → WsR s.data.toList 0 (r.map (l ++ ·))) ∧ l.length ≤ p ∧
    GroK 1 st v (wsS l) l.length ∧ GroK 1 st u (wsB l) l.length ∧ (ow v = 0 ∨ s0.next + 1 ≤ ow v) ∧ ow v ≤ st.next ∧ (ow u = 0 ∨ s0.next + 1 ≤ ow u) ∧ ow u ≤ st.next ∧ (ow v = 0 ∨ ow v ≠ ow u) ∧ Frm s0 st

section
variable {st : St} {K : Value → St → Prop}

set_option maxHeartbeats 8000000 in
theorem kWordsR (n : Nat) (s : ByteArray) (hs : s.size ≤ 80000)
    (h : ∀ l e v u st', WO s l e → Cel st' v (wsS l) → Cel st' u (wsB l) → ow v ≤ st'.next ∧ ow u ≤ st'.next → Frm st st' → K (.tuple #[v, u, .int .i64 e]) st') :
    callK (callO T0 orc fns 100000 (n + 2)) 22 [.string s] st K := by
  refine fn_runs (fn := g22) ?_ ?_ ?_
  · rfl
  · rfl
  unfold g22
  have hsz := size_list s
  simp (disch := omega) only [↓sxA, ↓wk_store, sxB, sxP, Nat.reduceLeDiff, reduceCtorEq, Nat.reduceEqDiff, Nat.reduceAdd, Int.reduceLT, Int.reduceLE, Int.reduceEq, Nat.reduceLT, Int.reduceToNat, Int.reduceAdd, Int.reduceSub, ↓reduceIte]
  refine iteI (fun c => ?_) (fun c => ?_)
  · exact h [] 2 _ _ st (WO.of_long (by omega)) (.inl ⟨rfl, rfl⟩) (.inl ⟨rfl, rfl⟩) ⟨Nat.zero_le _, Nat.zero_le _⟩ (Frm.refl _)
  refine loop_rule [0, 5, 6, 7] (WI st s) (fun vs _ => match lget vs 3 with
      | .int _ k => ((s.size : Int) - k).toNat
      | _ => 0) ?_ ?_ ?_
  · rfl
  · refine ⟨_, rfl, ⟨0, [], _, _, rfl, Nat.zero_le _, fun r hr => by cases r <;> simpa using hr, Nat.le_refl _, GroK.nil _ _, GroK.nil _ _, .inl rfl, Nat.zero_le _, .inl rfl, Nat.zero_le _, .inl rfl, Frm.refl _⟩, ?_⟩
    show ((s.size : Int) - 0).toNat < 100000
    omega
  · rintro vs s1 ⟨p, l, v, u, rfl, hp, hW, hl, g1, g2, o1, o2, o3, o4, o5, F⟩
    show sx _ _ _ _ _ [(0, _), (5, _), (6, _), (7, _)] _ _ _ _
    have hpL : p ≤ s.data.toList.length := by omega
    simp (disch := omega) only [↓sxA, ↓wk_store, sxB, sxP, Nat.reduceLeDiff, reduceCtorEq, Nat.reduceEqDiff, Nat.reduceAdd, Int.reduceLT, Int.reduceLE, Int.reduceEq, Nat.reduceLT, Int.reduceToNat, Int.reduceAdd, Int.reduceSub, ↓reduceIte]
    refine kNextR n s hs p hp fun w more good s2 hwd F2 => ?_
    unfold WdR at hwd
    split at hwd
    · -- the end
      rename_i hn
      obtain ⟨rfl, rfl, rfl⟩ := hwd
      obtain ⟨s4, st4, hb4, n4, G4⟩ := wdBox4 s2 (.string .empty) (.bool false) (.int .i64 0) (.int .i64 0) rfl rfl rfl rfl
      simp (disch := omega) only [↓sxA, ↓wk_store, sxB, sxP, Nat.reduceLeDiff, reduceCtorEq, Nat.reduceEqDiff, Nat.reduceAdd, Int.reduceLT, Int.reduceLE, Int.reduceEq, Nat.reduceLT, Int.reduceToNat, Int.reduceAdd, Int.reduceSub, ↓reduceIte, ↓st4]
      have Fx := F2.trans G4
      have hw0 := hW _ (.fin hn)
      rw [Option.map_some, List.append_nil] at hw0
      refine h l 0 v u s4 (WO.of_some (by omega) hw0) (g1.keep fun i hi => Fx.old i (by omega)).cel.1 (g2.keep fun i hi => Fx.old i (by omega)).cel.1 ⟨by have := Fx.nx; omega, by have := Fx.nx; omega⟩ (F.trans Fx)
    · -- the error
      rename_i fr hn
      obtain ⟨rfl, rfl, ws, qq, tt, rfl⟩ := hwd
      obtain ⟨s4, st4, hb4, n4, G4⟩ := wdBox4 s2 (.string ws) (.bool qq) (.int .i64 (fr : Nat)) (.int .i64 tt) rfl rfl rfl rfl
      simp (disch := omega) only [↓sxA, ↓wk_store, sxB, sxP, Nat.reduceLeDiff, reduceCtorEq, Nat.reduceEqDiff, Nat.reduceAdd, Int.reduceLT, Int.reduceLE, Int.reduceEq, Nat.reduceLT, Int.reduceToNat, Int.reduceAdd, Int.reduceSub, ↓reduceIte, ↓st4]
      have Fx := F2.trans G4
      have hw0 := hW _ (.bad hn)
      exact h [] 250 _ _ s4 (WO.of_none (by omega) hw0) (.inl ⟨rfl, rfl⟩) (.inl ⟨rfl, rfl⟩) ⟨Nat.zero_le _, Nat.zero_le _⟩ (F.trans Fx)
    · -- a word
      rename_i w q fr to hn
      obtain ⟨rfl, rfl, rfl⟩ := hwd
      obtain ⟨n1, n2, n3, n4, n5⟩ := nxt_wd hpL hn
      obtain ⟨s4, st4, hb4, m4, G4⟩ := wdBox4 s2 (.string (bs w)) (.bool q) (.int .i64 (fr : Nat)) (.int .i64 (to : Nat)) rfl rfl rfl rfl
      have Fx := F2.trans G4
      have c0 := hb4
      simp (disch := omega) only [↓sxA, ↓wk_store, sxB, sxP, Nat.reduceLeDiff, reduceCtorEq, Nat.reduceEqDiff, Nat.reduceAdd, Int.reduceLT, Int.reduceLE, Int.reduceEq, Nat.reduceLT, Int.reduceToNat, Int.reduceAdd, Int.reduceSub, ↓reduceIte, ↓st4, hb4]
      refine appendK (n := l.length) (g1.keep fun i hi => ?_) (get_new_same _ _) rfl (by decide) rfl (by omega) (by omega) fun s5 a1 a2 a3 => ?_
      · rw [get_new_ne _ _ _ (by have := Fx.nx; omega)]; exact Fx.old i (by omega)
      have e5 : s5.next = s4.next + 2 := a2
      have nx1 := Fx.nx
      have nx2 := F2.nx
      have fr5 : ∀ i, i + 1 ≠ ow v → i < s4.next → s5.get i = s4.get i := fun i h1 h2 => (a3 i h1 (by show i < s4.next + 1; omega)).trans (get_new_ne _ _ _ (by omega))
      have x5 : s5.get s2.next = some (.row [.string (bs w), .bool q, .int .i64 (fr : Nat), .int .i64 (to : Nat)] 0 false) := (fr5 _ (by omega) (by omega)).trans hb4
      simp (disch := omega) only [↓sxA, ↓wk_store, sxB, sxP, Nat.reduceLeDiff, reduceCtorEq, Nat.reduceEqDiff, Nat.reduceAdd, Int.reduceLT, Int.reduceLE, Int.reduceEq, Nat.reduceLT, Int.reduceToNat, Int.reduceAdd, Int.reduceSub, ↓reduceIte, x5]
      refine appendK (n := l.length) (g2.keep fun i hi => ?_) (get_new_same _ _) rfl (by decide) rfl (by omega) (by omega) fun s6 b1 b2 b3 => ?_
      · rw [get_new_ne _ _ _ (by omega), fr5 i (by omega) (by omega)]; exact Fx.old i (by omega)
      have e6 : s6.next = s5.next + 2 := b2
      have fr6 : ∀ i, i + 1 ≠ ow u → i < s5.next → s6.get i = s5.get i := fun i h1 h2 => (b3 i h1 (by show i < s5.next + 1; omega)).trans (get_new_ne _ _ _ (by omega))
      have x6 : s6.get s2.next = some (.row [.string (bs w), .bool q, .int .i64 (fr : Nat), .int .i64 (to : Nat)] 0 false) := (fr6 _ (by omega) (by omega)).trans x5
      simp (disch := omega) only [↓sxA, ↓wk_store, sxB, sxP, Nat.reduceLeDiff, reduceCtorEq, Nat.reduceEqDiff, Nat.reduceAdd, Int.reduceLT, Int.reduceLE, Int.reduceEq, Nat.reduceLT, Int.reduceToNat, Int.reduceAdd, Int.reduceSub, ↓reduceIte, x6]
      have hS : wsS l ++ [.string (bs w)] = wsS (l ++ [(w, q)]) := by simp [wsS]
      have hB : wsB l ++ [.bool q] = wsB (l ++ [(w, q)]) := by simp [wsB]
      have hLn : l.length + 1 = (l ++ [(w, q)]).length := by simp
      refine ⟨_, rfl, ⟨to, l ++ [(w, q)], .slice (some ⟨s4.next + 1, 0, none⟩) (l.length + 1) (l.length + 1), .slice (some ⟨s5.next + 1, 0, none⟩) (l.length + 1) (l.length + 1), rfl, by omega, fun r hr => ?_, by simp; omega, ?_, ?_, .inr ?_, ?_, .inr ?_, ?_, .inr ?_, ?_⟩, ?_⟩
      · have := hW _ (.wd hn hr)
        cases r with
        | none => simpa using this
        | some r => simpa using this
      · rw [← hS, ← hLn]
        exact a1.keep fun i hi => fr6 i (by show i + 1 ≠ ow u; have : i + 1 = s4.next + 1 + 1 := hi; omega) (by have : i + 1 = s4.next + 1 + 1 := hi; omega)
      · rw [← hB, ← hLn]
        exact b1
      · show st.next + 1 ≤ s4.next + 1 + 1
        have := F.nx
        omega
      · show s4.next + 1 + 1 ≤ s6.next
        omega
      · show st.next + 1 ≤ s5.next + 1 + 1
        have := F.nx
        omega
      · show s5.next + 1 + 1 ≤ s6.next
        omega
      · show s4.next + 1 + 1 ≠ s5.next + 1 + 1
        omega
      · have fn := F.nx
        exact ⟨by omega, fun i hi => (fr6 i (by omega) (by omega)).trans ((fr5 i (by omega) (by omega)).trans ((Fx.old i (by omega)).trans (F.old i hi)))⟩
      · show ((s.size : Int) - (to : Nat)).toNat < ((s.size : Int) - (p : Nat)).toNat
        omega
end
end Go.Proofs.YtdmemibnphcedaaGreatDoor
end
section
set_option linter.unusedSimpArgs false
set_option linter.unusedVariables false
set_option maxRecDepth 10000
set_option linter.unusedSectionVars false
namespace Go.Proofs.YtdmemibnphcedaaGreatDoor
open Go.Am
attribute [local irreducible] callO wopK ropK popK opK grpsE listE sx Runs

/-! ### values are no longer than the line, and there are no more of them -/
def Sm (L : List UInt8) (m : Nat) (cs : List Cl) : Prop := ∀ k, (clAt cs k).vals.length ≤ m ∧ ∀ v, v ∈ (clAt cs k).vals → v.size ≤ L.length + 1
theorem Sm.upd {L : List UInt8} {m m' : Nat} {cs : List Cl} (h : Sm L m cs) (k : Nat) (f : Cl → Cl) (hm : m ≤ m') (h1 : (f (clAt cs k)).vals.length ≤ m') (h2 : ∀ v, v ∈ (f (clAt cs k)).vals → v.size ≤ L.length + 1) : Sm L m' (upd' cs k f) := fun i => by
  by_cases e : k = i
  · subst e
    by_cases hk : k < cs.length
    · rw [upd_same _ _ _ hk]; exact ⟨h1, h2⟩
    · have : upd' cs k f = cs := List.set_eq_of_length_le (by omega)
      rw [this]; exact ⟨Nat.le_trans (h k).1 hm, (h k).2⟩
  · rw [upd_ne _ _ _ _ e]; exact ⟨Nat.le_trans (h i).1 hm, (h i).2⟩
theorem Sm.mono {L : List UInt8} {m m' : Nat} {cs : List Cl} (h : Sm L m cs) (hm : m ≤ m') : Sm L m' cs := fun i => ⟨Nat.le_trans (h i).1 hm, (h i).2⟩
theorem Sm.push {L : List UInt8} {m : Nat} {cs : List Cl} (h : Sm L m cs) (k : Nat) {w : List UInt8} (hw : w.length ≤ L.length + 1) : Sm L (m + 1) (upd' cs k (Cl.push (bs w))) := by
  refine h.upd k _ (Nat.le_succ _) (by have := (h k).1; simp [Cl.push]; omega) fun v hv => ?_
  rcases List.mem_append.1 hv with hv | hv
  · exact (h k).2 v hv
  · rw [List.mem_singleton.1 hv, bs_size]; exact hw
theorem Sm.rest {L : List UInt8} {m : Nat} {cs : List Cl} (h : Sm L m cs) {p k : Nat} {r : Option (List Cl)} (hr : restA L p k cs = .done r) : ∀ cs', r = some cs' → Sm L (m + 1) cs' := by
  unfold restA at hr
  split at hr
  · cases hr
    rintro cs' ⟨⟩
    refine h.upd k _ (Nat.le_succ _) (by simp [Cl.one]) fun v hv => ?_
    rw [List.mem_singleton.1 hv, bs_size]
    have := trimE_le (L.drop p)
    rw [List.length_drop] at this
    omega
  · cases hr
    intro cs' hh
    cases hh
theorem rest_done {L : List UInt8} {p k : Nat} {cs : List Cl} {a : Nat} {b : List Cl} (h : restA L p k cs = .go a b) : False := by
  unfold restA at h
  split at h <;> cases h

theorem Sm.val {L : List UInt8} {l : List IM} {m fr : Nat} {cs : List Cl} {w : Option (List UInt8 × Bool × Nat)} (h : Sm L m cs) (hw : ∀ a b c, w = some (a, b, c) → a.length ≤ L.length + 1) : (∀ p' cs', valA L l fr w cs = .go p' cs' → Sm L (m + 1) cs') ∧ ∀ cs', valA L l fr w cs = .done (some cs') → Sm L (m + 1) cs' := by
  unfold valA
  split
  · exact ⟨fun _ _ h => (by cases h), fun _ h => (by cases h)⟩
  · split
    · exact ⟨fun _ _ h => (rest_done h).elim, fun cs' hh => h.rest hh cs' rfl⟩
    · split
      · exact ⟨fun _ _ h => (by cases h), fun _ h => (by cases h)⟩
      · rename_i s q to
        split
        · exact ⟨fun _ _ h => (by cases h), fun _ h => (by cases h)⟩
        · refine ⟨fun p' cs' hh => ?_, fun _ h => (by cases h)⟩
          cases hh
          exact h.push _ (hw s q to rfl)
theorem Sm.nam {L : List UInt8} {l : List IM} {m k p : Nat} {cs : List Cl} (h : Sm L m cs) : (∀ p' cs', namA L l k p cs = .go p' cs' → Sm L (m + 1) cs') ∧ ∀ cs', namA L l k p cs = .done (some cs') → Sm L (m + 1) cs' := by
  have hon : Sm L m (upd' cs k Cl.on) := h.upd k _ (Nat.le_refl _) (h k).1 (h k).2
  unfold namA
  split
  · exact ⟨fun _ _ h => (by cases h), fun _ h => (by cases h)⟩
  · split
    · refine ⟨fun p' cs' hh => ?_, fun _ h => (by cases h)⟩
      cases hh
      exact hon.mono (Nat.le_succ _)
    · split
      · exact ⟨fun _ _ h => (by cases h), fun _ h => (by cases h)⟩
      · split
        · exact ⟨fun _ _ h => (rest_done h).elim, fun cs' hh => hon.rest hh cs' rfl⟩
        · exact ⟨fun _ _ h => (by cases h), fun _ h => (by cases h)⟩
      · rename_i s q fr to hn
        split
        · exact ⟨fun _ _ h => (rest_done h).elim, fun cs' hh => hon.rest hh cs' rfl⟩
        · split
          · exact ⟨fun _ _ h => (by cases h), fun _ h => (by cases h)⟩
          · refine ⟨fun p' cs' hh => ?_, fun _ h => (by cases h)⟩
            cases hh
            exact hon.push _ (nxt_len hn)
theorem Sm.step {L : List UInt8} {l : List IM} {m p : Nat} {cs : List Cl} (h : Sm L m cs) : (∀ p' cs', stepA L l p cs = .go p' cs' → Sm L (m + 1) cs') ∧ ∀ cs', stepA L l p cs = .done (some cs') → Sm L (m + 1) cs' := by
  unfold stepA
  split
  · refine ⟨fun _ _ h => (by cases h), fun cs' hh => ?_⟩
    cases hh
    exact h.mono (Nat.le_succ _)
  · exact h.val fun a b c e => by cases e
  · rename_i s q fr to hn
    split
    · exact h.nam
    · refine h.val fun a b c e => ?_
      cases e
      exact nxt_len hn
section
variable {st : St} {K : Value → St → Prop}

end
end Go.Proofs.YtdmemibnphcedaaGreatDoor
end
section
set_option linter.unusedSimpArgs false
set_option linter.unusedVariables false
set_option maxRecDepth 10000
set_option linter.unusedSectionVars false
namespace Go.Proofs.YtdmemibnphcedaaGreatDoor
open Go.Am
attribute [local irreducible] callO wopK ropK popK opK grpsE listE sx Runs

/-- a list of arguments that is read alone, now and later -/
def AgC (st : St) (v : Value) (ns : List ByteArray) (cs : List Cl) : Prop :=
  (∀ K : Value → Prop, popK .lenSl [v] K = K (.int .i64 (cs.length : Nat))) ∧ ∀ j, j < cs.length → ∃ (b : Nat) (vv : Value), (∀ K : Value → Prop, popK (.indexAddr 3) [v, .int .i64 (j : Int)] K = K (.pointer (some ⟨b, j * 3, none⟩))) ∧ oneCell vv = true ∧ ow vv ≤ st.next ∧ ∀ s', Frm st s' →
    (∀ K : Value → Prop, ropK (.loadN 3) [.pointer (some ⟨b, j * 3, none⟩)] s' K = K (.agg #[.string (ns.getD j .empty), vv, .bool (clAt cs j).set])) ∧ (∀ K : Value → Prop, ropK .load1 [.pointer (some ⟨b, j * 3 + 0, none⟩)] s' K = K (.string (ns.getD j .empty))) ∧
    (∀ K : Value → Prop, ropK .load1 [.pointer (some ⟨b, j * 3 + 1, none⟩)] s' K = K vv) ∧ (∀ K : Value → Prop, ropK .load1 [.pointer (some ⟨b, j * 3 + 2, none⟩)] s' K = K (.bool (clAt cs j).set)) ∧ Cel s' vv ((clAt cs j).vals.map Value.string)

theorem rk_loadK_of {st s' : St} {b o k : Nat} (h : s'.get b = st.get b) (K : Value → Prop) : ropK (.loadN k) [.pointer (some ⟨b, o, none⟩)] s' K = ropK (.loadN k) [.pointer (some ⟨b, o, none⟩)] st K := by
  simp only [ropK, rop, St.cells, h]
theorem AgR.agC {ok : Nat → Prop} {g : Bool} {st : St} {v : Value} {ns : List ByteArray} {cs : List Cl} (h : AgR ok g st v ns cs) : AgC st v ns cs := by
  refine ⟨h.len, fun j hj => ?_⟩
  obtain ⟨b, vv, o1, o2, o3, o4, o5, o6, o7, o8, o9⟩ := h.at hj
  obtain ⟨_, onx⟩ := h.okv
  refine ⟨b, vv, o2, o7.2.1, o9, fun s' F => ?_⟩
  have hb : s'.get b = st.get b := F.old b (by omega)
  refine ⟨fun K => ?_, fun K => ?_, fun K => ?_, fun K => ?_, o7.1.keep fun i hi => F.old i (by omega)⟩
  · rw [rk_loadK_of hb]; exact o3 K
  · rw [rk_load1, hb, ← rk_load1]; exact o4 K
  · rw [rk_load1, hb, ← rk_load1]; exact o5 K
  · rw [rk_load1, hb, ← rk_load1]; exact o6 K
theorem AgC.keep {st st' : St} {v : Value} {ns : List ByteArray} {cs : List Cl} (h : AgC st v ns cs) (F : Frm st st') : AgC st' v ns cs := by
  refine ⟨h.1, fun j hj => ?_⟩
  obtain ⟨b, vv, o1, o2, o3, o4⟩ := h.2 j hj
  exact ⟨b, vv, o1, o2, Nat.le_trans o3 F.nx, fun s' F' => o4 s' (F.trans F')⟩
theorem AgC.nil (st : St) : AgC st (.slice none 0 0) [] [] := (AgR.nil (ok := fun _ => True) (g := false) (ns := [])).agC
section
variable {st : St} {K : Value → St → Prop} {ns : List ByteArray} {cs : List Cl} {v u : Value} {x : ByteArray}

end
end Go.Proofs.YtdmemibnphcedaaGreatDoor
end
section
set_option linter.unusedSimpArgs false
set_option linter.unusedVariables false
set_option maxRecDepth 10000
set_option linter.unusedSectionVars false
namespace Go.Proofs.YtdmemibnphcedaaGreatDoor
open Go.Am
attribute [local irreducible] callO wopK ropK popK opK grpsE listE sx Runs

section
variable {st : St} {K : Value → St → Prop}

end
end Go.Proofs.YtdmemibnphcedaaGreatDoor
end
section
set_option linter.unusedSimpArgs false
set_option linter.unusedVariables false
set_option maxRecDepth 10000
namespace Go.Am
open Go.RowKit (Below)
open Go.RowKit Go.ChangeShapes Go.WideShapes

section
variable {H : Type} {enc : TypeId × Value → H} {P : Program}

theorem trodAll_stays {W W' : World} {sp : Nat → Bool} (hl : laidOutB P = true) : ∀ (ts : List TypeId) (vs : List Value) (ds : List (DataW H)) (ps : List MemPlace), (ts.all fun t => P.readableRec t && decide (t < P.types.size)) = true →
    DataW.TrodAll enc P W 0 (fun _ => true) true ts vs ds ps → (∀ p ∈ ps, W.sameAt W' p) → (∀ p ∈ ps, sp p.block = true) → DataW.TrodAll enc P W' 0 sp true ts vs ds ps
  | [], vs, ds, ps, _, h, _, _ => by
    obtain ⟨rfl, rfl, rfl⟩ := trodAll_nil h
    rfl
  | t :: ts, vs, ds, ps, hr, h, hs, hp => by
    simp only [List.all_cons, Bool.and_eq_true, decide_eq_true_eq] at hr
    obtain ⟨v, vs1, d, ds1, a, b, rfl, rfl, rfl, h1, h2⟩ := trodAll_cons h
    exact ⟨a, b, WideElems.Trod_stays hl hr.1.1 hr.1.2 h1 (fun p hh => hs p (List.mem_append_left _ hh)) (fun p hh => hp p (List.mem_append_left _ hh)),
      trodAll_stays hl ts vs1 ds1 b hr.2 h2 (fun p hh => hs p (List.mem_append_right _ hh)) (fun p hh => hp p (List.mem_append_right _ hh)), rfl⟩

theorem post_true {f : Func} {s : ChangeSpec} {apart fresh handsOn again : Bool} {W W' : World} {args : Array Value} {ds : List (DataW H)} {gs : List (DataW H)} {before : List MemPlace} {tb : TypeId} (hl : laidOutB P = true) (hread : (f.params.toList.all fun t => P.readableRec t && decide (t < P.types.size)) = true)
    (hres : f.resultTypes = #[tb]) (htb : P.underlying tb = some .bool) (hvars : s.vars = []) (hfn : s.fn H ds = { results := [.lit (.bool true)], args := ds })
    (hW : DataW.Whole enc P f.params.toList s.vars apart W args.toList ds gs before) (hb : Below W.heap.size W W') : s.post enc P f apart fresh handsOn again W args (.bool true) W' := by
  have hW' := hW
  obtain ⟨p, q, hA, hV, rfl, hfz, hnd⟩ := hW
  rw [hvars] at hV
  obtain ⟨rfl, rfl⟩ := trodVars_none hV
  have hsame : ∀ x ∈ p, W.sameAt W' x := fun x hx => hb.same (hW'.lt x (by simpa using hx))
  have hfn' : s.fn H (ds ++ []) = { results := [.lit (.bool true)], args := ds } := by rw [List.append_nil]; exact hfn
  have hold : ∀ x ∈ p ++ [], (fun b => decide (b < W.heap.size)) x.block = true := fun x hx => by simpa using hW'.lt x hx
  have hR : ∀ (b : Nat) (sp : Nat → Bool) (hd : Bool), DataW.TrodAll enc P W' b sp hd f.resultTypes.toList ((Value.bool true).resultList f.resultTypes.size) (s.fn H (ds ++ [])).results [] := fun b sp hd => by
    rw [hfn', hres]
    exact ⟨[], [], shut_bool htb true, rfl, rfl⟩
  have hAr : ∀ sp : Nat → Bool, (∀ x ∈ p, sp x.block = true) → DataW.TrodAll enc P W' 0 sp true f.params.toList args.toList (s.fn H (ds ++ [])).args p := fun sp hsp => by
    rw [hfn']
    exact trodAll_stays hl _ _ _ _ hread hA hsame hsp
  have hVa : ∀ sp : Nat → Bool, DataW.TrodVars enc P W' sp s.vars (s.fn H (ds ++ [])).vars [] := fun sp => by
    rw [hfn', hvars]
    rfl
  refine ⟨ds, [], p ++ [], [], p, [], hW', hR _ _ _, hAr _ (fun x hx => hold x (by simpa using hx)), hVa _, hb.frame _, fun _ => ⟨?_, _, _, ([] ++ p) ++ [], ⟨[] ++ p, [], trodAll_append (hAr _ (fun _ _ => rfl)) (hR _ _ _), hVa _, rfl, ?_, ?_⟩, ?_⟩⟩
  · intro j t r h1 h2
    rw [hres] at h1 h2
    cases j with
    | zero =>
      simp at h1
      subst h1
      have : r = .bool true := by simpa [Value.resultList] using h2.symm
      subst this
      exact okWide_bool_mk htb true
    | succ j => simp at h1
  · intro b off hp
    rw [hb.frozen (hW'.lt _ (by simpa using hp))]
    exact hfz b off (by simpa using hp)
  · intro ha
    have := hnd ha
    simpa using this
  · intro x hx _
    simpa using hx

/-- a law whose arguments are plain values, run from a begin where nothing else is known -/
theorem calls_plain {F : CallF} (hF : FSound P F) {f : FuncId} {m : Int} (hG : 0 < P.globals.size) {args : List Value} (ha : ∀ (μ : Nat → Spot) (n : Nat), VRs μ n args args) (hrun : callK F f args (St.begin m P.globals.size) fun v _ => v = .bool true)
    (w : World) (hm : w.cell? ⟨0, 0, none⟩ = some (.int .i64 m)) (h0 : 0 < w.heap.size) :
    Calls P f args.toArray w fun e w' => e = .returned (.bool true) ∧ Below w.heap.size w w' := by
  have hr : Rel w.heap.size w (fun i => ⟨i, 0, 1, 0⟩) (St.begin m P.globals.size) w := by
    refine Rel.start _ (fun i o hi => ?_) (fun i o hi => ?_)
    · rw [begin_get] at hi
      split at hi
      · rename_i h
        subst h
        cases hi
        refine ⟨hG, h0, rfl, by simp, fun j v hj => ?_, fun _ => .inl h0, fun h => by cases h⟩
        cases j with
        | zero => simp at hj; subst hj; exact ⟨_, hm, .int _ _⟩
        | succ j => simp at hj
      · cases hi
    · rw [begin_get] at hi
      split at hi
      · cases hi; rfl
      · cases hi
  have hg : Glob P (fun i => ⟨i, 0, 1, 0⟩) (St.begin m P.globals.size).next := fun g hg => ⟨hg, rfl, rfl⟩
  refine (calls_of_run hF hrun hr hg (ha _ _)).mono fun e w' h => ?_
  obtain ⟨v, s', v', h1, h2, μ', _, h3, h4⟩ := h
  simp only at h1
  subst h1
  cases h4
  exact ⟨h2, h3.below⟩

theorem slice_at {r : Reach} {b0 : Nat} {w : World} {t e : TypeId} {v : Value} (ht : P.underlying t = some (.slice e)) (h : Value.okWide P w r b0 t v) :
    v = .slice none 0 0 ∨ ∃ b off len cap, v = .slice (some ⟨b, off, none⟩) len cap ∧ len ≤ cap ∧ b < w.heap.size := by
  obtain ⟨a, len, cap, rfl⟩ := okWide_slice ht h
  simp only [Value.okWide, ht, Cell.okWide] at h
  cases a with
  | none =>
    simp only [Cell.ok, ht] at h
    cases len <;> cases cap <;> simp_all
  | some a =>
    simp only [Cell.ok, ht] at h
    obtain ⟨h1, _, _, h2, row, cells, h3, _⟩ := h
    obtain ⟨b, off, spot⟩ := a
    simp only at h2 h3
    subst h2
    refine .inr ⟨b, off, len, cap, rfl, h1, ?_⟩
    unfold World.shape? at h3
    by_cases hb : b < w.heap.size
    · exact hb
    · rw [Array.getElem?_eq_none (by omega)] at h3
      simp at h3

theorem mapM_get {α β : Type} {f : α → Option β} : ∀ {l : List α} {ys : List β}, l.mapM f = some ys → ∀ (i : Nat) (x : α), l[i]? = some x → f x = ys[i]?
  | [], ys, h, i, x, hx => by simp at hx
  | a :: l, ys, h, i, x, hx => by
    rw [List.mapM_cons] at h
    simp only [Option.bind_eq_bind, Option.bind_eq_some_iff, Option.pure_def, Option.some.injEq] at h
    obtain ⟨y, hy, ys', hys, rfl⟩ := h
    cases i with
    | zero => simp at hx; subst hx; simpa using hy
    | succ i => simp only [List.getElem?_cons_succ] at hx ⊢; exact mapM_get hys i x hx

/-- a row of pairs of texts (or of any fixed number of them), as the reader sees it -/
theorem texts_read {w : World} {t e u : TypeId} {n b off len cap : Nat} {d : DataW H} {ps : List MemPlace} (ht : P.underlying t = some (.slice e)) (he : P.underlying e = some (.array n u)) (hu : P.underlying u = some .string) (hc : P.cellsOf e = n) (hc1 : P.cellsOf u = 1)
    (h : DataW.Trod enc P w 0 (fun _ => true) true t (.slice (some ⟨b, off, none⟩) len cap) d ps) :
    ∃ ls : List ByteArray, ls.length = len * n ∧ ∀ (j : Nat) (s : ByteArray), ls[j]? = some s → w.cell? ⟨b, off + j, none⟩ = some (.string s) := by
  obtain ⟨fuel, hf⟩ := h
  have hcell : ∀ j, j < len * n → ∃ s, w.cell? ⟨b, off + j, none⟩ = some (.string s) := by
    rcases DataW.trod_slice ht hf with ⟨h0, _⟩ | ⟨a, len', cap', elems, rest, m, _, h1, _, _, _, _, hlen, hel, _⟩
    · simp [Value.cells] at h0
    · simp [Value.cells] at h1
      obtain ⟨rfl, rfl, rfl⟩ := h1
      intro j hj
      have hn : 0 < n := Nat.pos_of_ne_zero fun h0 => by subst h0; simp at hj
      have hi : j / n < len := Nat.div_lt_of_lt_mul (by rw [Nat.mul_comm]; exact hj)
      have hj' := hel (j / n) hi
      rw [List.getElem?_eq_getElem (by omega), Option.bind_eq_some_iff] at hj'
      obtain ⟨cs, hcs, hy⟩ := hj'
      obtain ⟨xs, m', _, _, hl, hxl, hx⟩ := DataW.trod_array he hy
      have hk : j % n < n := Nat.mod_lt _ hn
      have hx' := hx (j % n) hk
      rw [List.getElem?_eq_getElem (by omega)] at hx'
      obtain ⟨s, hs, _, _⟩ := DataW.trod_string hu hx'
      rw [hc1, Nat.mul_one] at hs
      have hsk : cs[j % n]? = some (.string s) := by
        have := congrArg (fun l => l[0]?) hs
        simpa using this
      rw [hc] at hcs
      unfold World.cells? at hcs
      rw [if_pos (Nat.zero_le _)] at hcs
      have := mapM_get hcs (j % n) (j % n) (by rw [List.getElem?_range hk])
      rw [hsk, add_eq, add_eq] at this
      refine ⟨s, ?_⟩
      rw [← this]
      congr 2
      rw [Nat.add_assoc]
      congr 1
      rw [Nat.mul_comm]
      exact (Nat.div_add_mod j n).symm
  refine ⟨(List.range (len * n)).map fun j => match w.cell? ⟨b, off + j, none⟩ with
    | some (.string s) => s
    | _ => .empty, by simp, fun j s hj => ?_⟩
  simp only [List.getElem?_map, Option.map_eq_some_iff] at hj
  obtain ⟨j', hj1, hj2⟩ := hj
  obtain ⟨hj3, rfl⟩ : j' < len * n ∧ j = j' := by
    rw [List.getElem?_eq_some_iff] at hj1
    obtain ⟨q1, q2⟩ := hj1
    simp at q1 q2
    exact ⟨by omega, q2⟩
  obtain ⟨s', hs'⟩ := hcell j hj3
  rw [hs'] at hj2 ⊢
  simp only at hj2
  rw [hj2]
end
end Go.Am
end
section
set_option linter.unusedSimpArgs false
set_option linter.unusedVariables false
set_option maxRecDepth 10000
namespace Go.Am
open Go.RowKit (Below)
open Go.RowKit Go.ChangeShapes Go.WideShapes

section
variable {H : Type} {enc : TypeId × Value → H} {P : Program} {B0 : Nat} {W0 : World} {μ : Nat → Spot} {s : St} {w : World}

/-- more rows, and of what there was nothing has turned -/
structure Ext (μ : Nat → Spot) (s : St) (μ' : Nat → Spot) (s' : St) : Prop where
  agree : Agree μ s.next μ' s'.next
  keep : ∀ i, i < s.next → s'.get i = s.get i

theorem Ext.refl (μ : Nat → Spot) (s : St) : Ext μ s μ s := ⟨Agree.refl _ _, fun _ _ => rfl⟩
theorem Ext.trans {μ' μ'' : Nat → Spot} {s' s'' : St} (h : Ext μ s μ' s') (k : Ext μ' s' μ'' s'') : Ext μ s μ'' s'' :=
  ⟨h.agree.trans k.agree, fun i hi => (k.keep i (Nat.lt_of_lt_of_le hi h.agree.1)).trans (h.keep i hi)⟩

theorem Ext.glob {μ' : Nat → Spot} {s' : St} (h : Ext μ s μ' s') (hg : Glob P μ s.next) : Glob P μ' s'.next := fun g hl => by
  obtain ⟨h1, h2, h3⟩ := hg g hl
  have := h.agree.2 g h1
  exact ⟨Nat.lt_of_lt_of_le h1 h.agree.1, by rw [this]; exact h2, by rw [this]; exact h3⟩

/-- a row that is read alone -/
theorem Rel.addRo (h : Rel B0 W0 μ s w) (cs : List Value) (b off : Nat) (hb : b < w.heap.size) (hB : b < B0) (hc : ∀ (j : Nat) v, cs[j]? = some v → ∃ v', w.cell? ⟨b, off + j, none⟩ = some v' ∧ VR μ s.next v v') :
    Rel B0 W0 (upd μ s.next ⟨b, off, off + cs.length, 0⟩) (s.new (.row cs 0 true)) w := by
  have ha := upd_agree (μ := μ) ⟨b, off, off + cs.length, 0⟩ s.next
  refine h.rename (.row cs 0 true) ⟨b, off, off + cs.length, 0⟩ hb ?_ (fun hh => by simp [AObj.owned] at hh)
  unfold IdOk
  rw [upd_same]
  refine ⟨rfl, Nat.le_refl _, fun j v hj => ?_, fun _ => .inl hB, fun hh => by cases hh⟩
  obtain ⟨v', h1, h2⟩ := hc j v hj
  exact ⟨v', h1, h2.mono ha⟩

theorem ext_addRo (cs : List Value) (sp : Spot) : Ext μ s (upd μ s.next sp) (s.new (.row cs 0 true)) :=
  ⟨upd_agree sp s.next, fun i hi => get_new_ne _ _ _ (by omega)⟩

theorem cell_lt {a : Addr} {v : Value} (h : w.cell? a = some v) : a.block < w.heap.size ∧ a.spot = none := by
  unfold World.cell? at h
  split at h
  · rename_i c x y hh
    refine ⟨?_, ?_⟩
    · by_cases hb : a.block < w.heap.size
      · exact hb
      · rw [Array.getElem?_eq_none (by omega)] at hh; cases hh
    · split at h
      · cases h
      · rename_i hs; simpa using hs
  · cases h

/-- one cell of a slice's elements -/
theorem cells1 {a : Addr} {base : Nat} {cs : List Value} (h : w.cells? base a 1 = some cs) : ∃ v, cs = [v] ∧ w.cell? a = some v := by
  unfold World.cells? at h
  split at h
  · have h0 : a.add 0 = a := by unfold Addr.add; exact if_pos rfl
    have h1 : (List.range 1) = [0] := rfl
    rw [h1, List.mapM_cons] at h
    simp only [List.mapM_nil, h0, Option.bind_eq_bind, Option.bind_eq_some_iff, Option.pure_def, Option.some.injEq] at h
    obtain ⟨v, hv, xs, rfl, rfl⟩ := h
    exact ⟨v, rfl, hv⟩
  · cases h

/-- a slice whose elements take a cell each, as the reader sees it: nil; empty with no room (it may lie anywhere); or cells that are there -/
theorem slice_in {t e : TypeId} {n base : Nat} {held : Bool} {x : Value} {y : DataW H × List MemPlace} (ht : P.underlying t = some (.slice e)) (hc : P.cellsOf e = 1) (hf : DataW.trod enc P w base (fun _ => true) held n t [x] = some y) :
    x = .slice none 0 0 ∨ (∃ a, x = .slice (some a) 0 0) ∨
    ∃ b off len cap m, x = .slice (some ⟨b, off, none⟩) len cap ∧ len ≤ cap ∧ cap ≤ maxLen ∧ b < w.heap.size ∧ ∀ j, j < len → ∃ v z, w.cell? ⟨b, off + j, none⟩ = some v ∧ DataW.trod enc P w base (fun _ => true) held m e [v] = some z := by
  rcases DataW.trod_slice ht hf with ⟨h0, _⟩ | ⟨a, len, cap, elems, rest, m, _, hcs, _, hba, hlc, hcm, hel, helm, hsp, _⟩
  · exact .inl (by simpa using h0)
  · obtain rfl : x = .slice (some a) len cap := by simpa using hcs
    by_cases hc0 : cap = 0
    · subst hc0
      obtain rfl : len = 0 := by omega
      exact .inr (.inl ⟨a, rfl⟩)
    have at0 : ∃ v, w.cell? a = some v := by
      have h0 : a.add (0 * P.cellsOf e) = a := by unfold Addr.add; simp
      by_cases hl : 0 < len
      · have := helm 0 hl
        rw [List.getElem?_eq_getElem (by omega), Option.bind_eq_some_iff, hc] at this
        obtain ⟨cs, h1, _⟩ := this
        rw [hc] at h0
        rw [h0] at h1
        obtain ⟨v, _, hv⟩ := cells1 h1
        exact ⟨v, hv⟩
      · obtain ⟨hr, hj⟩ := hsp rfl
        have := hj 0 (by omega)
        rw [List.getElem?_eq_getElem (by omega), Option.bind_eq_some_iff, hc] at this
        obtain ⟨cs, h1, _⟩ := this
        have hl0 : len = 0 := by omega
        subst hl0
        rw [hc] at h0
        simp only [Nat.add_zero] at h1
        rw [h0] at h1
        obtain ⟨v, _, hv⟩ := cells1 h1
        exact ⟨v, hv⟩
    obtain ⟨v0, hv0⟩ := at0
    obtain ⟨k1, k2⟩ := cell_lt hv0
    obtain ⟨b, off, sp⟩ := a
    simp only at k1 k2
    subst k2
    refine .inr (.inr ⟨b, off, len, cap, m, rfl, hlc, hcm, k1, fun j hj => ?_⟩)
    have := helm j hj
    rw [List.getElem?_eq_getElem (by omega), Option.bind_eq_some_iff, hc, Nat.mul_one, add_eq] at this
    obtain ⟨cs, h1, h2⟩ := this
    obtain ⟨v, rfl, hv⟩ := cells1 h1
    exact ⟨v, _, hv, h2⟩

theorem bytes_in (h : Rel B0 W0 μ s w) (hB : B0 = w.heap.size) (h0 : 0 < s.next) {t e : TypeId} {n base : Nat} {held : Bool} {x : Value} {y : DataW H × List MemPlace} (ht : P.underlying t = some (.slice e)) (he : P.underlying e = some (.int .u8)) (hc : P.cellsOf e = 1)
    (hf : DataW.trod enc P w base (fun _ => true) held n t [x] = some y) :
    ∃ μ' s' a l, Ext μ s μ' s' ∧ Rel B0 W0 μ' s' w ∧ VR μ' s'.next a x ∧ Bys s' a l ∧ ow a ≤ s'.next := by
  rcases slice_in ht hc hf with rfl | ⟨a, rfl⟩ | ⟨b, off, len, cap, m, rfl, hlc, hcm, hb, hcell⟩
  · exact ⟨μ, s, .slice none 0 0, [], Ext.refl _ _, h, .nilSlice, Bys.nil _, Nat.zero_le _⟩
  · exact ⟨μ, s, .slice (some ⟨0, 0, some 0⟩) 0 0, [], Ext.refl _ _, h, .void a, .inr (.inr ⟨_, rfl, rfl⟩), h0⟩
  · have hbyte : ∀ j, j < len → ∃ c : UInt8, w.cell? ⟨b, off + j, none⟩ = some (u8v c) := fun j hj => by
      obtain ⟨v, z, hv, hz⟩ := hcell j hj
      obtain ⟨k, hk, _, hw⟩ := DataW.trod_int he hz
      have hvk : v = .int .u8 k := by simpa using hk
      have hk2 : 0 ≤ k ∧ k ≤ 255 := by
        simp only [Lit.wf, IntKind.min, IntKind.max] at hw
        simpa [IntKind.signed, IntKind.bits] using hw
      refine ⟨UInt8.ofNat k.toNat, ?_⟩
      rw [hv, hvk]
      have : ((UInt8.ofNat k.toNat).toNat : Int) = k := by
        rw [UInt8.toNat_ofNat']
        omega
      simp only [u8v, this]
    obtain ⟨l, hl, hcl⟩ : ∃ l : List UInt8, l.length = len ∧ ∀ (j : Nat) c, l[j]? = some c → w.cell? ⟨b, off + j, none⟩ = some (u8v c) := by
      refine ⟨(List.range len).map fun j => if hj : j < len then (hbyte j hj).choose else 0, by simp, fun j c hj => ?_⟩
      simp only [List.getElem?_map, Option.map_eq_some_iff] at hj
      obtain ⟨j', hj1, rfl⟩ := hj
      obtain ⟨q1, q2⟩ := List.getElem?_eq_some_iff.1 hj1
      simp at q1 q2
      subst q2
      rw [dif_pos q1]
      exact (hbyte _ q1).choose_spec
    subst hl
    refine ⟨_, _, .slice (some ⟨s.next, 0, none⟩) l.length cap, l, ext_addRo (l.map u8v) ⟨b, off, off + (l.map u8v).length, 0⟩, h.addRo (l.map u8v) b off hb (by omega) (fun j v hj => ?_), ?_, .inr (.inl ⟨s.next, 0, cap, l.map u8v, 0, true, rfl, hlc, get_new_same _ _, .inl rfl, by simp, by rw [List.drop_zero, List.take_of_length_le (by simp)]⟩), ?_⟩
    · simp only [List.getElem?_map, Option.map_eq_some_iff] at hj
      obtain ⟨c, hj, rfl⟩ := hj
      exact ⟨_, hcl j c hj, .int _ _⟩
    · have := VR.slice (μ := upd μ s.next ⟨b, off, off + (l.map u8v).length, 0⟩) (n := s.next + 1) s.next 0 off l.length cap cap (by omega) hlc (Nat.le_refl _) (fun _ => rfl) (fun _ => by simp [upd_same]) (by simp [upd_same]) (fun hh => by simp [upd_same] at hh)
      simpa [upd_same] using this
    · show s.next + 1 ≤ s.next + 1; exact Nat.le_refl _

/-- a list of what is there at each place -/
theorem choose_list {β : Type} {R : Nat → β → Prop} (len : Nat) (h : ∀ j, j < len → ∃ q, R j q) : ∃ qs : List β, qs.length = len ∧ ∀ (j : Nat) q, qs[j]? = some q → R j q := by
  induction len with
  | zero => exact ⟨[], rfl, fun j q hj => by simp at hj⟩
  | succ len ih =>
    obtain ⟨qs, h1, h2⟩ := ih fun j hj => h j (by omega)
    obtain ⟨q, hq⟩ := h len (by omega)
    refine ⟨qs ++ [q], by simp [h1], fun j q' hj => ?_⟩
    rcases Nat.lt_or_ge j qs.length with hlt | hge
    · rw [List.getElem?_append_left hlt] at hj; exact h2 j q' hj
    · rw [List.getElem?_append_right hge] at hj
      obtain ⟨k1, k2⟩ := List.getElem?_eq_some_iff.1 hj
      simp at k1
      have : j = len := by omega
      subst this
      simp at k2
      subst k2
      exact hq

/-- a slice of plain values (ints, texts) -/
theorem plain_in {β : Type} (f : β → Value) (hVR : ∀ (μ : Nat → Spot) (n : Nat) q, VR μ n (f q) (f q)) (h : Rel B0 W0 μ s w) (hB : B0 = w.heap.size) (h0 : 0 < s.next) {t e : TypeId} {n base : Nat} {held : Bool} {x : Value} {y : DataW H × List MemPlace} (ht : P.underlying t = some (.slice e))
    (he : ∀ (m : Nat) (v : Value) z, DataW.trod enc P w base (fun _ => true) held m e [v] = some z → ∃ q, v = f q) (hc : P.cellsOf e = 1) (hf : DataW.trod enc P w base (fun _ => true) held n t [x] = some y) :
    ∃ (μ' : Nat → Spot) (s' : St) (a : Value) (qs : List β), Ext μ s μ' s' ∧ Rel B0 W0 μ' s' w ∧ VR μ' s'.next a x ∧ Cel s' a (qs.map f) ∧ ow a ≤ s'.next := by
  rcases slice_in ht hc hf with rfl | ⟨a, rfl⟩ | ⟨b, off, len, cap, m, rfl, hlc, hcm, hb, hcell⟩
  · exact ⟨μ, s, .slice none 0 0, [], Ext.refl _ _, h, .nilSlice, .inl ⟨rfl, rfl⟩, Nat.zero_le _⟩
  · exact ⟨μ, s, .slice (some ⟨0, 0, some 0⟩) 0 0, [], Ext.refl _ _, h, .void a, .inr (.inr ⟨_, rfl, rfl⟩), h0⟩
  · obtain ⟨qs, hl, hq⟩ := choose_list (R := fun j q => w.cell? ⟨b, off + j, none⟩ = some (f q)) len fun j hj => by
      obtain ⟨v, z, hv, hz⟩ := hcell j hj
      obtain ⟨q, rfl⟩ := he m v z hz
      exact ⟨q, hv⟩
    subst hl
    have hml : (qs.map f).length = qs.length := List.length_map _
    refine ⟨_, _, .slice (some ⟨s.next, 0, none⟩) qs.length cap, qs, ext_addRo (qs.map f) ⟨b, off, off + (qs.map f).length, 0⟩, h.addRo (qs.map f) b off hb (by omega) (fun j v hj => ?_), ?_, .inr (.inl ⟨s.next, 0, cap, qs.map f, 0, true, by rw [hml], get_new_same _ _, by simp, by rw [List.drop_zero, List.take_of_length_le (Nat.le_refl _)]⟩), ?_⟩
    · simp only [List.getElem?_map, Option.map_eq_some_iff] at hj
      obtain ⟨c, hj, rfl⟩ := hj
      exact ⟨_, hq j c hj, hVR _ _ _⟩
    · have := VR.slice (μ := upd μ s.next ⟨b, off, off + (qs.map f).length, 0⟩) (n := s.next + 1) s.next 0 off qs.length cap cap (by omega) hlc (Nat.le_refl _) (fun _ => rfl) (fun _ => by simp [upd_same]) (by simp [upd_same]) (fun hh => by simp [upd_same] at hh)
      simpa [upd_same] using this
    · show s.next + 1 ≤ s.next + 1; exact Nat.le_refl _

/-- a slice of slices of bytes -/
theorem bytess_in (h : Rel B0 W0 μ s w) (hB : B0 = w.heap.size) (h0 : 0 < s.next) {t e u : TypeId} {n base : Nat} {held : Bool} {x : Value} {y : DataW H × List MemPlace} (ht : P.underlying t = some (.slice e)) (he : P.underlying e = some (.slice u)) (hu : P.underlying u = some (.int .u8)) (hc : P.cellsOf e = 1) (hcu : P.cellsOf u = 1)
    (hf : DataW.trod enc P w base (fun _ => true) held n t [x] = some y) :
    ∃ (μ' : Nat → Spot) (s' : St) (a : Value) (as : List Value), Ext μ s μ' s' ∧ Rel B0 W0 μ' s' w ∧ VR μ' s'.next a x ∧ Cel s' a as ∧ ow a ≤ s'.next ∧ ∀ x ∈ as, ∃ l, Bys s' x l ∧ ow x ≤ s'.next := by
  rcases slice_in ht hc hf with rfl | ⟨a, rfl⟩ | ⟨b, off, len, cap, m, rfl, hlc, hcm, hb, hcell⟩
  · exact ⟨μ, s, .slice none 0 0, [], Ext.refl _ _, h, .nilSlice, .inl ⟨rfl, rfl⟩, Nat.zero_le _, fun x hx => by cases hx⟩
  · exact ⟨μ, s, .slice (some ⟨0, 0, some 0⟩) 0 0, [], Ext.refl _ _, h, .void a, .inr (.inr ⟨_, rfl, rfl⟩), h0, fun x hx => by cases hx⟩
  · have key : ∀ k, k ≤ len → ∃ (μ' : Nat → Spot) (s' : St) (as : List Value), Ext μ s μ' s' ∧ Rel B0 W0 μ' s' w ∧ as.length = k ∧ ∀ (j : Nat) a, as[j]? = some a → (∃ v, w.cell? ⟨b, off + j, none⟩ = some v ∧ VR μ' s'.next a v) ∧ ∃ l, Bys s' a l ∧ ow a ≤ s'.next := by
      intro k
      induction k with
      | zero => exact fun _ => ⟨μ, s, [], Ext.refl _ _, h, rfl, fun j a hj => by simp at hj⟩
      | succ k ih =>
        intro hk
        obtain ⟨μ1, s1, as, x1, r1, hl, hall⟩ := ih (by omega)
        obtain ⟨v, z, hv, hz⟩ := hcell k (by omega)
        obtain ⟨μ2, s2, a, l, x2, r2, hva, hba, hoa⟩ := bytes_in r1 hB (Nat.lt_of_lt_of_le h0 x1.agree.1) he hu hcu hz
        refine ⟨μ2, s2, as ++ [a], x1.trans x2, r2, by simp [hl], fun j a' hj => ?_⟩
        rcases Nat.lt_or_ge j as.length with hlt | hge
        · rw [List.getElem?_append_left hlt] at hj
          obtain ⟨⟨v', q1, q2⟩, l', q3, q4⟩ := hall j a' hj
          exact ⟨⟨v', q1, q2.mono x2.agree⟩, l', q3.keep fun i hi => x2.keep i (by omega), Nat.le_trans q4 x2.agree.1⟩
        · rw [List.getElem?_append_right hge] at hj
          obtain ⟨k1, k2⟩ := List.getElem?_eq_some_iff.1 hj
          simp at k1
          have : j = k := by omega
          subst this
          simp [hl] at k2
          subst k2
          exact ⟨⟨v, hv, hva⟩, l, hba, hoa⟩
    obtain ⟨μ1, s1, as, x1, r1, hl, hall⟩ := key len (Nat.le_refl _)
    subst hl
    refine ⟨_, _, .slice (some ⟨s1.next, 0, none⟩) as.length cap, as, x1.trans (ext_addRo as ⟨b, off, off + as.length, 0⟩), r1.addRo as b off hb (by omega) (fun j v hj => ?_), ?_, .inr (.inl ⟨s1.next, 0, cap, as, 0, true, rfl, get_new_same _ _, by simp, by rw [List.drop_zero, List.take_of_length_le (Nat.le_refl _)]⟩), ?_, fun a ha => ?_⟩
    · exact (hall j v hj).1
    · have := VR.slice (μ := upd μ1 s1.next ⟨b, off, off + as.length, 0⟩) (n := s1.next + 1) s1.next 0 off as.length cap cap (by omega) hlc (Nat.le_refl _) (fun _ => rfl) (fun _ => by simp [upd_same]) (by simp [upd_same]) (fun hh => by simp [upd_same] at hh)
      simpa [upd_same] using this
    · show s1.next + 1 ≤ s1.next + 1; exact Nat.le_refl _
    · obtain ⟨j, hj⟩ := List.getElem?_of_mem ha
      obtain ⟨_, l, q3, q4⟩ := hall j a hj
      exact ⟨l, q3.keep fun i hi => get_new_ne _ _ _ (by omega), Nat.le_succ_of_le q4⟩

/-- the begin: the variable 0 holds some int -/
theorem begin_rel {m : Int} (hG : 0 < P.globals.size) (hm : w.cell? ⟨0, 0, none⟩ = some (.int .i64 m)) (h0 : 0 < w.heap.size) : Rel w.heap.size w (fun i => ⟨i, 0, 1, 0⟩) (St.begin m P.globals.size) w := by
  refine Rel.start _ (fun i o hi => ?_) (fun i o hi => ?_)
  · rw [begin_get] at hi
    split at hi
    · rename_i h
      subst h
      cases hi
      refine ⟨hG, h0, rfl, by simp, fun j v hj => ?_, fun _ => .inl h0, fun h => by cases h⟩
      cases j with
      | zero => simp at hj; subst hj; exact ⟨_, hm, .int _ _⟩
      | succ j => simp at hj
    · cases hi
  · rw [begin_get] at hi
    split at hi
    · cases hi; rfl
    · cases hi
theorem begin_glob {m : Int} : Glob P (fun i => ⟨i, 0, 1, 0⟩) (St.begin m P.globals.size).next := fun g hg => ⟨hg, rfl, rfl⟩

/-- a law that is run over rows taken in: it returns true, and no block that was there has turned -/
theorem calls_law {F : CallF} (hF : FSound P F) {f : FuncId} {m : Int} {args vs : List Value} {μ : Nat → Spot} {s : St} (hx : Ext (fun i => ⟨i, 0, 1, 0⟩) (St.begin m P.globals.size) μ s) (hr : Rel w.heap.size w μ s w) (ha : VRs μ s.next vs args)
    (hrun : callK F f vs s fun v _ => v = .bool true) : Calls P f args.toArray w fun e w' => e = .returned (.bool true) ∧ Below w.heap.size w w' := by
  refine (calls_of_run hF hrun hr (hx.glob begin_glob) ha).mono fun e w' h => ?_
  obtain ⟨v, s', v', h1, h2, μ', _, h3, h4⟩ := h
  simp only at h1
  subst h1
  cases h4
  exact ⟨h2, h3.below⟩
end
end Go.Am
end
section
set_option linter.unusedSimpArgs false
set_option linter.unusedVariables false
set_option maxRecDepth 10000
namespace Go.Proofs.YtdmemibnphcedaaGreatDoor.argsFits
open Go.ChangeShapes Go.WideShapes Go.ChangeAt Go.RowKit Go.Am
attribute [local irreducible] callO

theorem globals9 : Tryz.prog.globals.size = 9 := by kernel_rfl
/-! ### how the run begins: the variable 0 holds some int, the variable ErrRange an error -/
def beginE (m : Int) (te : TypeId) : St := St.put { St.begin m 9 with next := 10 } 2 (some (.row [.iface te (.pointer (some ⟨9, 0, none⟩))] 0 true))
def muE (a : Addr) : Nat → Spot := fun i => if i = 9 then ⟨a.block, a.off, a.off + 1, 0⟩ else ⟨i, 0, 1, 0⟩
theorem beginE_get (m : Int) (te : TypeId) (i : Nat) : (beginE m te).get i = if 2 = i then some (.row [.iface te (.pointer (some ⟨9, 0, none⟩))] 0 true) else if 0 = i then some (.row [.int .i64 m] 0 true) else none := by
  unfold beginE
  rw [St.get_put]
  split
  · rfl
  · exact begin_get m 9 i
theorem beginE_max (m : Int) (te : TypeId) : hasMax (beginE m te) = true := by
  unfold hasMax
  rw [beginE_get, if_neg (by decide), if_pos rfl]
theorem beginE_err (m : Int) (te : TypeId) : hasErr (beginE m te) = true := by
  unfold hasErr
  rw [beginE_get, if_pos rfl]
theorem beginE_rel {W : World} {m : Int} {te : TypeId} {a : Addr} (hm : W.cell? ⟨0, 0, none⟩ = some (.int .i64 m)) (he : W.cell? ⟨2, 0, none⟩ = some (.iface te (.pointer (some a)))) (ha : a.spot = none) : Rel W.heap.size W (muE a) (beginE m te) W := by
  have b0 := (cell_lt hm).1
  have b2 := (cell_lt he).1
  refine Rel.start _ (fun i o hi => ?_) (fun i o hi => ?_)
  · rw [beginE_get] at hi
    split at hi
    · rename_i h
      subst h
      cases hi
      refine ⟨show 2 < 10 by decide, b2, rfl, by simp [muE], fun j v hj => ?_, fun _ => .inl b2, fun h => by cases h⟩
      cases j with
      | zero =>
        simp at hj
        subst hj
        refine ⟨_, he, .iface _ _ _ ?_⟩
        have := VR.ptr (μ := muE a) (n := (beginE m te).next) 9 0 (show 9 < 10 by decide)
        obtain ⟨ab, ao, sp⟩ := a
        simp only at ha
        subst ha
        exact this
      | succ j => simp at hj
    · split at hi
      · rename_i h
        subst h
        cases hi
        refine ⟨show 0 < 10 by decide, b0, rfl, by simp [muE], fun j v hj => ?_, fun _ => .inl b0, fun h => by cases h⟩
        cases j with
        | zero => simp at hj; subst hj; exact ⟨_, hm, .int _ _⟩
        | succ j => simp at hj
      · cases hi
  · rw [beginE_get] at hi
    split at hi
    · cases hi; rfl
    · split at hi
      · cases hi; rfl
      · cases hi
theorem beginE_glob (m : Int) (te : TypeId) (a : Addr) : Glob Tryz.prog (muE a) (beginE m te).next := fun g hg => by
  rw [globals9] at hg
  have h9 : g ≠ 9 := by omega
  refine ⟨by show g < 10; omega, ?_, ?_⟩
  · unfold muE; rw [if_neg h9]
  · unfold muE; rw [if_neg h9]

/-! ### what the row says of ErrRange -/
theorem gER : Tryz.prog.globalNamed "strconv.ErrRange" = some 2 := by kernel_rfl
theorem gERType : (Tryz.prog.globals[2]?).map (·.type) = some 94 := by kernel_rfl
theorem star : "*" ++ "errors.errorString" = "*errors.errorString" := by decide
theorem rowES (u : TypeId) (h : Tryz.prog.typeName? 3 u = some "*errors.errorString") : u = 195 :=
  typeName_ptr_named (nm := "errors.errorString") (by rw [star]; kernel_rfl) (by kernel_rfl) (by decide) u (by rw [star]; exact h)
theorem err_laid {W : World} (h : laidMetH Tryz.prog Rows.argsFitsRow.laid W) : ∃ (te : TypeId) (a : Addr), W.cell? ⟨2, 0, none⟩ = some (.iface te (.pointer (some a))) ∧ a.spot = none := by
  have e : (Rows.argsFitsRow.laid.filter fun x => x.2.handleName?.isSome) = [] := by kernel_rfl
  unfold laidMetH at h
  rw [e] at h
  have h2 : laidMet Tryz.prog [("strconv.ErrRange", Rows.laid_strconv_ErrRange)] W := laidMet.filter (fun x => x.1 == "strconv.ErrRange") h
  obtain ⟨a, s0, hv, hc, _, _⟩ := laid_sentinel h2 gER gERType Tryz.underlying94 rowES Tryz.underlying195 Tryz.underlying197 rfl rfl Tryz.underlying9 (by kernel_rfl) (by kernel_rfl)
  have h0 := World.var?_cell gER hv 0
  exact ⟨195, a, by simpa using h0, (cell_lt hc).2⟩

end Go.Proofs.YtdmemibnphcedaaGreatDoor.argsFits
end
section
set_option linter.unusedSimpArgs false
set_option linter.unusedVariables false
set_option maxRecDepth 10000
set_option linter.unusedSectionVars false
namespace Go.Proofs.YtdmemibnphcedaaGreatDoor
open Go.Am
attribute [local irreducible] callO wopK ropK popK opK grpsE listE sx Runs

theorem wsS_map (l : List (List UInt8 × Bool)) : wsS l = (l.map fun x => bs x.1).map Value.string := by simp [wsS, List.map_map, Function.comp_def]
theorem wsB_at (l : List (List UInt8 × Bool)) (j : Nat) (h : j < l.length) : (wsB l).getD j undef = .bool (l[j]).2 := by
  simp [wsB, List.getD_eq_getElem?_getD, h]
theorem numVal_two (o : Option Int) : ∃ a b, numVal o = .tuple #[.int .i64 a, .int .i64 b] := by
  cases o with
  | none => exact ⟨_, _, rfl⟩
  | some v => exact ⟨_, _, rfl⟩

section
variable {st : St} {K : Value → St → Prop}

theorem WO.len {s : ByteArray} {l : List (List UInt8 × Bool)} {e : Int} (hs : s.size ≤ 80000) (h : WO s l e) (hx : ∃ r, WsR s.data.toList 0 r) : l.length ≤ s.size := by
  have go : ∀ {L : List UInt8} {p : Nat} {r : Option (List (List UInt8 × Bool))}, WsR L p r → p ≤ L.length → ∀ l, r = some l → p + l.length ≤ L.length := by
    intro L p r h
    induction h with
    | fin h => intro hp l e; cases e; simpa using hp
    | bad h => intro hp l e; cases e
    | wd h k ih =>
      intro hp l e
      rw [Option.map_eq_some_iff] at e
      obtain ⟨l', e1, rfl⟩ := e
      obtain ⟨_, n2, n3, n4, _⟩ := nxt_wd hp h
      have := ih n4 l' e1
      simp
      omega
  rcases h with ⟨_, rfl, _⟩ | ⟨_, _, rfl, _⟩ | ⟨_, h2, _⟩
  · simp
  · simp
  · obtain ⟨r, hr⟩ := hx
    have := wordsO_eq hr
    rw [h2] at this
    have := go hr (Nat.zero_le _) l this.symm
    rw [size_list]
    omega

/-- a line's words come to an end -/
theorem wsR_ex (L : List UInt8) : ∀ (n p : Nat), L.length - p = n → p ≤ L.length → ∃ r, WsR L p r
  | n, p, hn, hp => by
    cases h : nxt L p with
    | fin => exact ⟨_, .fin h⟩
    | bad fr => exact ⟨_, .bad h⟩
    | wd s q fr to =>
      obtain ⟨_, n2, n3, n4, _⟩ := nxt_wd hp h
      obtain ⟨r, hr⟩ := wsR_ex L (L.length - to) to rfl n4
      exact ⟨_, .wd h hr⟩
  termination_by n => n

set_option maxHeartbeats 8000000 in
theorem kArgsWords (s x : ByteArray) (h0 : 2 < st.next) (hm : hasMax st = true) (he : hasErr st = true) (h : ∀ st', K (.bool true) st') :
    callK (callO T0 orcW fnsW 100000 1) 5 [.string s, .string x] st K := by
  refine fn_runs (fn := g5) ?_ ?_ ?_
  · rfl
  · rfl
  unfold g5
  have F1 := Frm.new st (.row [.string s, .string x] 0 false)
  simp (disch := omega) only [↓sxA, ↓wk_store, sxB, sxP, Nat.reduceLeDiff, reduceCtorEq, Nat.reduceEqDiff, Nat.reduceAdd, Int.reduceLT, Int.reduceLE, Int.reduceEq, Nat.reduceLT, Int.reduceToNat, Int.reduceAdd, Int.reduceSub, ↓reduceIte]
  refine kBelow 0 (by rfl) (by decide) ?_
  refine kHeavy _ (xs := [s, x]) (cel_row (get_new_same _ _) rfl) (by show 2 < 90000; decide) ?_ (fun hsz => ?_)
  · simp (disch := omega) only [↓sxA, ↓wk_store, sxB, sxP, Nat.reduceLeDiff, reduceCtorEq, Nat.reduceEqDiff, Nat.reduceAdd, Int.reduceLT, Int.reduceLE, Int.reduceEq, Nat.reduceLT, Int.reduceToNat, Int.reduceAdd, Int.reduceSub, ↓reduceIte]
    exact h _
  have hs := hsz s (by simp)
  have hx := hsz x (by simp)
  simp (disch := omega) only [↓sxA, ↓wk_store, sxB, sxP, Nat.reduceLeDiff, reduceCtorEq, Nat.reduceEqDiff, Nat.reduceAdd, Int.reduceLT, Int.reduceLE, Int.reduceEq, Nat.reduceLT, Int.reduceToNat, Int.reduceAdd, Int.reduceSub, ↓reduceIte]
  refine kWords 0 s (F1.max (by omega) hm) fun l e v u s1 hW hv hu ho F2 => ?_
  simp (disch := omega) only [↓sxA, ↓wk_store, sxB, sxP, Nat.reduceLeDiff, reduceCtorEq, Nat.reduceEqDiff, Nat.reduceAdd, Int.reduceLT, Int.reduceLE, Int.reduceEq, Nat.reduceLT, Int.reduceToNat, Int.reduceAdd, Int.reduceSub, ↓reduceIte]
  refine kBelow 0 (by rfl) (by decide) ?_
  refine kWordsR _ s (by omega) fun l' e' v' u' s2 hW' hv' hu' ho' F3 => ?_
  obtain ⟨rfl, rfl⟩ := hW.unique hW'
  have hll := hW.len (by omega) (wsR_ex s.data.toList _ 0 rfl (Nat.zero_le _))
  have hv3 : Cel s2 v (wsS l) := hv.keep fun i hi => F3.old i (by omega)
  have hu3 : Cel s2 u (wsB l) := hu.keep fun i hi => F3.old i (by omega)
  have n1 := len_cel hu3
  have n2 := len_cel hu'
  have hbl : (wsB l).length = l.length := by simp [wsB]
  rw [hbl] at n1 n2
  simp (disch := omega) only [↓sxA, ↓wk_store, sxB, sxP, Nat.reduceLeDiff, reduceCtorEq, Nat.reduceEqDiff, Nat.reduceAdd, Int.reduceLT, Int.reduceLE, Int.reduceEq, Nat.reduceLT, Int.reduceToNat, Int.reduceAdd, Int.reduceSub, ↓reduceIte]
  refine kBelow 0 (by rfl) (by decide) ?_
  refine kEqStrs _ (xs := l.map fun x => bs x.1) (by rw [← wsS_map]; exact hv3) (by rw [← wsS_map]; exact hv') (by simp; omega) ?_
  simp (disch := omega) only [↓sxA, ↓wk_store, sxB, sxP, Nat.reduceLeDiff, reduceCtorEq, Nat.reduceEqDiff, Nat.reduceAdd, Int.reduceLT, Int.reduceLE, Int.reduceEq, Nat.reduceLT, Int.reduceToNat, Int.reduceAdd, Int.reduceSub, ↓reduceIte, ↓n1, ↓n2]
  have F := (F1.trans F2).trans F3
  refine loop_rule [1, 6, 9, 11] (fun vs s' => s' = s2 ∧ ∃ j : Nat, vs = [.string x, u, u', .int .i64 (j : Nat)] ∧ j ≤ l.length) (fun vs _ => match lget vs 3 with
      | .int _ k => ((l.length : Int) - k).toNat
      | _ => 0) ?_ ?_ ?_
  · rfl
  · refine ⟨_, rfl, ⟨rfl, 0, rfl, Nat.zero_le _⟩, ?_⟩
    show ((l.length : Int) - 0).toNat < 100000
    omega
  · rintro vs s' ⟨rfl, j, rfl, hj⟩
    show sx _ _ _ _ _ [(1, _), (6, _), (9, _), (11, _)] _ _ _ _
    by_cases hjl : j < l.length
    · have i1 := idx_cel hu3
      have ld := load_cel hu3
      have i2 := idx_cel hu'
      have ld2 := load_cel hu'
      rw [hbl] at i1 ld i2 ld2
      have e := wsB_at l j hjl
      simp (disch := omega) only [↓sxA, ↓wk_store, sxB, sxP, Nat.reduceLeDiff, reduceCtorEq, Nat.reduceEqDiff, Nat.reduceAdd, Int.reduceLT, Int.reduceLE, Int.reduceEq, Nat.reduceLT, Int.reduceToNat, Int.reduceAdd, Int.reduceSub, ↓reduceIte, ↓n1, ↓i1, ↓ld, ↓i2, ↓ld2, Int.toNat_natCast, e]
      refine ⟨_, rfl, ⟨j + 1, by simp, hjl⟩, ?_⟩
      show ((l.length : Int) - ((j : Int) + 1)).toNat < ((l.length : Int) - j).toNat
      omega
    · simp (disch := omega) only [↓sxA, ↓wk_store, sxB, sxP, Nat.reduceLeDiff, reduceCtorEq, Nat.reduceEqDiff, Nat.reduceAdd, Int.reduceLT, Int.reduceLE, Int.reduceEq, Nat.reduceLT, Int.reduceToNat, Int.reduceAdd, Int.reduceSub, ↓reduceIte, ↓n1]
      obtain ⟨a, b, hab⟩ := numVal_two (numA x.data.toList)
      refine kBelow 0 (by rfl) (by decide) ?_
      refine kNumber _ x (by omega) (F.err (by omega) he) ?_
      rw [hab]
      simp (disch := omega) only [↓sxA, ↓wk_store, sxB, sxP, Nat.reduceLeDiff, reduceCtorEq, Nat.reduceEqDiff, Nat.reduceAdd, Int.reduceLT, Int.reduceLE, Int.reduceEq, Nat.reduceLT, Int.reduceToNat, Int.reduceAdd, Int.reduceSub, ↓reduceIte]
      refine kBelow 0 (by rfl) (by decide) ?_
      refine kNumberR _ x (by omega) ?_
      rw [hab]
      simp (disch := omega) only [↓sxA, ↓wk_store, sxB, sxP, Nat.reduceLeDiff, reduceCtorEq, Nat.reduceEqDiff, Nat.reduceAdd, Int.reduceLT, Int.reduceLE, Int.reduceEq, Nat.reduceLT, Int.reduceToNat, Int.reduceAdd, Int.reduceSub, ↓reduceIte]
      refine kBelow 0 (by rfl) (by decide) ?_
      refine kQuote _ x (by omega) fun s3 G3 => ?_
      simp (disch := omega) only [↓sxA, ↓wk_store, sxB, sxP, Nat.reduceLeDiff, reduceCtorEq, Nat.reduceEqDiff, Nat.reduceAdd, Int.reduceLT, Int.reduceLE, Int.reduceEq, Nat.reduceLT, Int.reduceToNat, Int.reduceAdd, Int.reduceSub, ↓reduceIte]
      refine kBelow 0 (by rfl) (by decide) ?_
      refine kQuoteR _ x (by omega) fun s4 G4 => ?_
      simp (disch := omega) only [↓sxA, ↓wk_store, sxB, sxP, Nat.reduceLeDiff, reduceCtorEq, Nat.reduceEqDiff, Nat.reduceAdd, Int.reduceLT, Int.reduceLE, Int.reduceEq, Nat.reduceLT, Int.reduceToNat, Int.reduceAdd, Int.reduceSub, ↓reduceIte]
      refine kBelow 0 (by rfl) (by decide) ?_
      refine kAwake _ (((F.trans G3).trans G4).max (by omega) hm) ?_
      simp (disch := omega) only [↓sxA, ↓wk_store, sxB, sxP, Nat.reduceLeDiff, reduceCtorEq, Nat.reduceEqDiff, Nat.reduceAdd, Int.reduceLT, Int.reduceLE, Int.reduceEq, Nat.reduceLT, Int.reduceToNat, Int.reduceAdd, Int.reduceSub, ↓reduceIte]
      exact h _
end
end Go.Proofs.YtdmemibnphcedaaGreatDoor
end
section
set_option linter.unusedSimpArgs false
set_option linter.unusedVariables false
set_option maxRecDepth 10000
namespace Go.Proofs.YtdmemibnphcedaaGreatDoor.argsWords
open Go.ChangeShapes Go.WideShapes Go.ChangeAt Go.RowKit Go.Am Go.Proofs.YtdmemibnphcedaaGreatDoor.argsFits
attribute [local irreducible] callO

theorem own : ownKnob Tryz.prog.godebug = none := by kernel_rfl

set_option maxRecDepth 100000 in
theorem contract (H : Type) (enc : TypeId × Value → H) (W : World) (base : Nat) (args : Array Value) (ds gs : List (DataW H)) (before : List MemPlace)
    (hval : ∀ (j : Nat) t v, Tryz.f5.params[j]? = some t → args[j]? = some v → Value.okWide Tryz.prog W .any base t v)
    (hW : DataW.Whole enc Tryz.prog Tryz.f5.params.toList Rows.argsWordsSpec.vars false W args.toList ds gs before) (hL : laidMetH Tryz.prog Rows.argsWordsRow.laid W) (hsh : W.ShapedOpen Tryz.prog) :
    Calls Tryz.prog 5 args W fun e W' => ∃ v, e = .returned v ∧ Rows.argsWordsSpec.post enc Tryz.prog Tryz.f5 false true false false W args v W' := by
  have hW' := hW
  obtain ⟨p, q, hA0, hV, rfl, hfz, hnd⟩ := hW
  have hA : DataW.TrodAll enc Tryz.prog W 0 (fun _ => true) true Tryz.f5.params.toList args.toList ds p := hA0
  rw [Tryz.params5] at hA hval
  obtain ⟨v0, vs0, d0, ds0, p0, q0, hargs, rfl, rfl, h0, r0⟩ := trodAll_cons hA
  obtain ⟨v1, vs1, d1, ds1, p1, q1, hargs1, rfl, rfl, h1, r1⟩ := trodAll_cons r0
  obtain ⟨rfl, rfl, rfl⟩ := trodAll_nil r1
  obtain rfl : args = #[v0, v1] := by cases args; simp_all
  obtain ⟨m, hm⟩ : ∃ m, W.cell? ⟨0, 0, none⟩ = some (.int .i64 m) := Tryz.laysM144.s1_3 W hsh
  obtain ⟨te, a, hce, hsp⟩ := err_laid hL
  obtain ⟨t0, rfl⟩ := okWide_string Tryz.underlying9 (hval 0 _ v0 rfl rfl)
  obtain ⟨t1, rfl⟩ := okWide_string Tryz.underlying9 (hval 1 _ v1 rfl rfl)
  have hrun := kArgsWords t0 t1 (st := beginE m te) (K := fun v _ => v = .bool true) (show 2 < 10 by decide) (beginE_max m te) (beginE_err m te) fun _ => rfl
  have walk := calls_of_run soundW (Q := fun r => r.1 = .bool true) hrun (beginE_rel hm hce hsp) (beginE_glob m te a) (args := [.string t0, .string t1]) (.cons _ _ _ _ (.string t0) (.cons _ _ _ _ (.string t1) .nil))
  refine walk.mono fun e W' hh => ?_
  obtain ⟨v, s', v', k1, k2, μ', _, k3, k4⟩ := hh
  simp only at k1
  subst k1
  cases k4
  refine ⟨_, k2, ?_⟩
  exact post_true (tb := 4) (by kernel_rfl) (by kernel_rfl) (by kernel_rfl) Tryz.underlying4 rfl rfl hW' k3.below

/-- a world that holds what the start lays -/
noncomputable abbrev laidWorld (os : Os) : World := World.laidAll Tryz.prog os Rows.argsWordsRow.laid
set_option maxRecDepth 1000000 in
theorem laid_met (os : Os) : laidMet Tryz.prog Rows.argsWordsRow.laid ((laidWorld os).forCall (fun _ _ => 0) ⟨#[], #[.string .empty, .string .empty], []⟩).memory :=
  laidMet_laidAll _ (by kernel_rfl) (by kernel_rfl)
set_option maxRecDepth 1000000 in
theorem shaped (os : Os) : ((laidWorld os).forCall (fun _ _ => 0) ⟨#[], #[.string .empty, .string .empty], []⟩).Shaped Tryz.checked.prog := World.shaped_of_ZipB (by kernel_rfl) (by kernel_rfl)
set_option maxRecDepth 1000000 in
theorem reads (os : Os) {H : Type} (enc : TypeId × Value → H) : ∃ places, DataW.whole enc Tryz.prog ((laidWorld os).forCall (fun _ _ => 0) ⟨#[], #[.string .empty, .string .empty], []⟩).memory Tryz.f5.params.toList Rows.argsWordsSpec.vars false (#[.string .empty, .string .empty] : Array Value).toList 8 = some ([.lit (.string []), .lit (.string [])], [], places) :=
  ⟨[], by kernel_rfl⟩

set_option maxRecDepth 100000 in
theorem lifted (os : Os) (started : os.Started) (H : Type) (enc : TypeId × Value → H) (F : Stop.Interp) :
    ReturnsInHanded {} Tryz.checked os 5 .any ((OpenSpec.ofChange Rows.argsWordsSpec).preRow enc Tryz.prog Tryz.f5 Rows.argsWordsRow.domain false Rows.argsWordsRow.laid) (((OpenSpec.ofChange Rows.argsWordsSpec).at F).post enc Tryz.prog Tryz.f5 false true false false) := by
  obtain ⟨places, hx⟩ := reads os enc
  refine returnsInHanded_of_row (C := Tryz.checked) (s := OpenSpec.ofChange Rows.argsWordsSpec) own started (by kernel_rfl) Tryz.func5
    ⟨laidWorld os, fun _ _ => 0, ⟨#[], #[.string .empty, .string .empty], []⟩, World.laidAll_os _ _ _, shaped os, rfl, (Input.okWide_of_okWideB (base := 0) (by kernel_rfl)).2,
      OpenSpec.preRow_of_cond 8 hx (by kernel_rfl) (fun k hk => by cases hk) (by kernel_rfl) (laid_met os), by
        simp only [Assume.holds]
        exact ⟨by simp, by simp, fun _ => Modest.zero, by simp, by simp⟩⟩ ?_
  intro W base args ds gs before hval hW _ _ _ hL hsh _
  exact contract H enc W base args ds gs before hval hW hL hsh

theorem said : Rows.ArgsWordsSaid :=
  OpenClaim.holds_of_cond 5 Tryz.f5 rfl rfl rfl rfl rfl rfl rfl ⟨rfl, rfl, rfl, rfl, rfl⟩ rfl rfl rfl rfl rfl (by kernel_rfl) Tryz.func5 (by kernel_rfl)
    (of_decide_eq_true (by kernel_rfl)) (by unfold Func.isWrapper; first | (rw [if_pos (by decide +kernel)]; kernel_rfl) | (rw [if_neg (by decide +kernel)]; exact ⟨rfl, rfl⟩))
    (fun os started H enc _ F => by rw [OpenClaim.pre_eq_preRow]; exact lifted os started H enc F)

theorem plain (f : FuncId) (fn : Func) (hf : Tryz.pinned.checked.prog.funcNamed "bluebell/bluebelllaw25.ArgsWords" = some f) (hfn : Tryz.pinned.checked.prog.funcs[f]? = some fn) :
    true = Tryz.pinned.checked.prog.looks [] ∧ ∀ (j : Nat) t, fn.params[j]? = some t → Tryz.pinned.checked.prog.wantsStandIn t = false := by
  obtain rfl : f = 5 := Option.some.inj ((show Tryz.prog.funcNamed "bluebell/bluebelllaw25.ArgsWords" = some 5 by kernel_rfl).symm.trans hf) |>.symm
  obtain rfl : fn = Tryz.f5 := (Option.some.inj (Tryz.func5.symm.trans hfn)).symm
  refine ⟨by kernel_rfl, fun j t ht => ?_⟩
  rw [Tryz.params5] at ht
  have : t = 9 := by simpa using Array.mem_of_getElem? ht
  subst this
  exact (show Tryz.prog.wantsStandIn 9 = false by kernel_rfl)

theorem card : Rows.ArgsWordsCardSaid :=
  Claim7.holds_tied_plain_at .later [] _ _ _ _ said (fun _ h => by cases h) (by kernel_rfl) (fun _ h => by cases h) argsWords_row_tie rfl ⟨rfl, rfl⟩ (by kernel_rfl) rfl plain (by kernel_rfl)
end Go.Proofs.YtdmemibnphcedaaGreatDoor.argsWords
end
