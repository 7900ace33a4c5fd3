/-
  A text is quoted: by the program.
-/
import Derived.Test.YtdmemibnphcedaaGreatDoorRBckClaimPart29
import Derived.Test.YtdmemibnphcedaaGreatDoorRBckClaimPart26
set_option linter.unusedSimpArgs false
set_option linter.unusedVariables false
set_option maxRecDepth 10000
set_option linter.unusedSectionVars false
namespace Go.Proofs.YtdmemibnphcedaaGreatDoor
open Go.Am

/-- bytes that no word has become question marks -/
def qB (c : UInt8) : UInt8 := if c = 10 ∨ prn c = true then c else 63
/-- bytes that want quotes -/
def spc (c : UInt8) : Bool := [32, 34, 61, 42, 10].contains c
def quoteL (l : List UInt8) : List UInt8 := if l ≠ [] ∧ (l.map qB).any spc = false then l.map qB else 34 :: (escL (l.map qB) ++ [34])

theorem qB_keep {c : UInt8} (h : c.toNat = 10 ∨ (32 ≤ c.toNat ∧ c.toNat ≤ 126)) : qB c = c := by
 unfold qB
 rw [if_pos]
 rcases h with h | h
 ·exact .inl (UInt8.toNat.inj h)
 ·right; simp [prn, h]
theorem qB_q {c : UInt8} (h1 : c.toNat ≠ 10) (h2 : c.toNat < 32 ∨ 126 < c.toNat) : qB c = 63 := by
 unfold qB
 rw [if_neg]
 rintro (h | h)
 ·exact h1 (by rw [h]; rfl)
 ·simp [prn] at h; omega
theorem qB_ascii (c : UInt8) : (qB c).toNat < 128 := by
 by_cases h : c.toNat = 10 ∨ (32 ≤ c.toNat ∧ c.toNat ≤ 126)
 ·rw [qB_keep h]; omega
 ·rw [qB_q (by omega) (by omega)]; decide

theorem size_bsl (l : List UInt8) : (bs l).size = l.length := by simp [bs, ByteArray.size]
theorem contAny_any (cs : List UInt8) : ∀ l : List UInt8, Lib.containsAny l cs = l.any cs.contains
 | [] => rfl
 | b :: l => by
  have ih := contAny_any cs l
  have hg := Lib.indexAny_ge cs l
  unfold Lib.containsAny at ih ⊢
  have e : Lib.indexAny (b :: l) cs = if cs.contains b then 0 else if Lib.indexAny l cs == -1 then -1 else Lib.indexAny l cs + 1 := rfl
  rw [List.any_cons, ← ih, e]
  cases hb : cs.contains b with
  | true => simp
  | false =>
   simp only [Bool.false_eq_true, if_false, Bool.false_or, beq_iff_eq]
   by_cases h1 : Lib.indexAny l cs = -1
   ·rw [if_pos h1, h1]
   ·rw [if_neg h1]
    rw [decide_eq_true (show 0 ≤ Lib.indexAny l cs + 1 by omega), decide_eq_true (show 0 ≤ Lib.indexAny l cs by omega)]

attribute [local irreducible] callO wopK ropK popK opK grpsE listE sx Runs

section
variable {st : St} {K : Value → St → Prop}

theorem kContAny (n : Nat) (l : List UInt8) (hl : l.length ≤ 40000) (ha : ∀ c ∈ l, c.toNat < 128) (h : K (.bool (l.any spc)) st) : callK (callO T0 orc fns 100000 n) 49 [.string (bs l), .string ⟨#[32, 34, 61, 42, 10]⟩] st K := by
 rw [callO_none (by rfl)]
 have hbs : (bs l).size = l.length := by simp [bs, ByteArray.size]
 have h1 : (bs l).size < 4294967281 := by omega
 have h2 : asciiB (bs l) = true := by
  unfold asciiB
  rw [List.all_eq_true]
  exact fun c hc => decide_eq_true (ha c (by simpa [bs] using hc))
 have h3 : asciiB (⟨#[32, 34, 61, 42, 10]⟩ : ByteArray) = true := by decide +kernel
 have h4 : (⟨#[32, 34, 61, 42, 10]⟩ : ByteArray).size < 4294967281 := by decide
 have e : orc 49 [.string (bs l), .string ⟨#[32, 34, 61, 42, 10]⟩] st = .ret (.bool (l.any spc), st) := by
  rw [orc_eq (by decide)]
  unfold orc1
  simp only [Nat.reduceEqDiff, if_false, if_true]
  rw [if_pos ⟨h1, h4, h2, h3⟩, contAny_any]
  rfl
 exact (propext (callK_ret (K := K) e)).mpr h

theorem kQuote (n : Nat) (s : ByteArray) (hs : s.size ≤ 40000) (h : ∀ st', Frm st st' → K (.string (bs (quoteL s.data.toList))) st') :
  callK (callO T0 orc fns 100000 (n + 7)) 26 [.string s] st K := by
 refine fn_runs (fn := g26) ?_ ?_ ?_
 ·rfl
 ·rfl
 unfold g26
 have hsz := size_list s
 simp (disch := omega) only [↓sxA, ↓wk_store, sxB, sxP, simprocAttr]
 refine loop_rule [3, 8, 9, 10] (fun vs s' => ∃ j : Nat, vs = [.slice (some ⟨st.next, 0, none⟩) s.size s.size, .slice (some ⟨st.next, 0, none⟩) s.size s.size, .int .i64 (s.size : Nat), .int .i64 (j : Nat)] ∧ j ≤ s.size ∧ s'.next = st.next + 1 ∧ (∀ i, i < st.next → s'.get i = st.get i) ∧ s'.get st.next = some (.row (((s.data.toList.take j).map qB ++ s.data.toList.drop j).map u8v) 1 false)) (fun vs _ => match lget vs 3 with
   | .int _ k => ((s.size : Int) - k).toNat
   | _ => 0) ?_ ?_ ?_
 ·rfl
 ·refine ⟨_, rfl, ⟨0, rfl, Nat.zero_le _, rfl, fun i hi => get_new_ne _ _ _ (by omega), get_new_same _ _⟩, ?_⟩
  show ((s.size : Int) - 0).toNat < 100000
  omega
 ·rintro vs s' ⟨j, rfl, j1, hn, hf, hg⟩
  show sx _ _ _ _ _ [(3, _), (8, _), (9, _), (10, _)] _ _ _ _
  have F : Frm st s' := ⟨by omega, hf⟩
  by_cases hj : j < s.size
  ·obtain ⟨c, hc, hgd, hb⟩ := byte_at s j hj
   have hlj : ((s.data.toList.take j).map qB).length = j := by rw [List.length_map, List.length_take]; omega
   have hcj : (((s.data.toList.take j).map qB ++ s.data.toList.drop j).map u8v)[j]? = some (.int .u8 (c.toNat : Int)) := by
    rw [List.getElem?_map, List.getElem?_append_right (by omega), hlj, List.getElem?_drop, Nat.sub_self, Nat.add_zero, hc]; rfl
   have hdrop : s.data.toList.drop j = c :: s.data.toList.drop (j + 1) := by
    obtain ⟨h1, h2⟩ := List.getElem?_eq_some_iff.1 hc
    rw [List.drop_eq_getElem_cons h1, h2]
   have htake : s.data.toList.take (j + 1) = s.data.toList.take j ++ [c] := by rw [List.take_add_one, hc]; rfl
   have ix : ∀ K : Value → Prop, popK (.indexAddr 1) [.slice (some ⟨st.next, 0, none⟩) s.size s.size, .int .i64 (j : Int)] K = K (.pointer (some ⟨st.next, j, none⟩)) := fun K => by
    rw [pk_indexAddr]
    have e : (0 : Nat) + (j : Int).toNat * 1 = j := by omega
    rw [e]
    exact propext ⟨fun h => h.2, fun h => ⟨⟨by omega, by omega⟩, h⟩⟩
   have ld : ∀ K : Value → Prop, ropK .load1 [.pointer (some ⟨st.next, j, none⟩)] s' K = K (.int .u8 (c.toNat : Int)) := fun K => by
    rw [rk_load1, hg]
    simp only [getK, rowK]
    exact nthK_at hcj K
   have keepRow : qB c = c → (((s.data.toList.take (j + 1)).map qB ++ s.data.toList.drop (j + 1)).map u8v) = (((s.data.toList.take j).map qB ++ s.data.toList.drop j).map u8v) := fun e => by
    rw [htake, hdrop, List.map_append (f := qB), List.append_assoc]
    simp only [List.map_cons, List.map_nil, e, List.singleton_append]
   have hmeas : ((s.size : Int) - ((j : Int) + 1)).toNat < ((s.size : Int) - j).toNat := by omega
   have bad : qB c = 63 → ∀ W : Value → St → Prop, wopK (.store 1) [.pointer (some ⟨st.next, j, none⟩), .int .u8 63] s' W = W undef (s'.put st.next (some (.row (((s.data.toList.take (j + 1)).map qB ++ s.data.toList.drop (j + 1)).map u8v) 1 false))) := fun e W => by
    have hl : j < (((s.data.toList.take j).map qB ++ s.data.toList.drop j).map u8v).length := by
     rw [List.length_map, List.length_append, hlj, List.length_drop]; omega
    have hrow : lputs (((s.data.toList.take j).map qB ++ s.data.toList.drop j).map u8v) j [.int .u8 63] = (((s.data.toList.take (j + 1)).map qB ++ s.data.toList.drop (j + 1)).map u8v) := by
     rw [htake, hdrop]
     simp only [List.map_append, List.map_cons, List.map_nil, List.append_assoc, List.singleton_append, e]
     unfold lputs
     have e1 : ((s.data.toList.take j).map qB |>.map u8v).length = j := by rw [List.length_map]; exact hlj
     rw [List.take_left' e1, ← List.drop_drop, List.drop_left' e1]
     simp
     rfl
    rw [wk_store, hg]
    simp only [getK, rowK]
    rw [show cellsOf (.int .u8 63) = [.int .u8 63] from rfl, hrow]
    exact propext ⟨fun h => h.2.2, fun h => ⟨rfl, ⟨by first | trivial | rfl, by omega, by rfl⟩, h⟩⟩
   simp (disch := omega) only [↓sxA, sxB, sxP, simprocAttr, ↓ix, ↓ld]
   have keep : qB c = c → ∃ j_1 : Nat, [Value.slice (some ⟨st.next, 0, none⟩) s.size s.size, .slice (some ⟨st.next, 0, none⟩) s.size s.size, .int .i64 (s.size : Nat), .int .i64 ((j : Int) + 1)] = [.slice (some ⟨st.next, 0, none⟩) s.size s.size, .slice (some ⟨st.next, 0, none⟩) s.size s.size, .int .i64 (s.size : Nat), .int .i64 (j_1 : Nat)] ∧ j_1 ≤ s.size ∧ s'.next = st.next + 1 ∧ (∀ i, i < st.next → s'.get i = st.get i) ∧ s'.get st.next = some (.row (((s.data.toList.take j_1).map qB ++ s.data.toList.drop j_1).map u8v) 1 false) := fun e => ⟨j + 1, by simp, hj, hn, hf, by rw [keepRow e]; exact hg⟩
   refine iteI (fun c1 => ?_) (fun c1 => iteI (fun c2 => ?_) (fun c2 => iteI (fun c3 => ?_) (fun c3 => ?_)))
   ·exact ⟨_, rfl, keep (qB_keep (.inl (by omega))), hmeas⟩
   ·have bw := bad (qB_q (by omega) (by omega))
    simp (disch := omega) only [↓sxA, sxB, sxP, simprocAttr, ↓ix, ↓bw]
    exact ⟨_, rfl, ⟨j + 1, by simp, hj, hn, fun i hi => (get_put_ne _ _ _ _ (by omega)).trans (hf i hi), by first | rfl | exact get_put_same _ _ _⟩, hmeas⟩
   ·have bw := bad (qB_q (by omega) (by omega))
    simp (disch := omega) only [↓sxA, sxB, sxP, simprocAttr, ↓ix, ↓bw]
    exact ⟨_, rfl, ⟨j + 1, by simp, hj, hn, fun i hi => (get_put_ne _ _ _ _ (by omega)).trans (hf i hi), by first | rfl | exact get_put_same _ _ _⟩, hmeas⟩
   ·exact ⟨_, rfl, keep (qB_keep (.inr (by omega))), hmeas⟩
  ·have e1 : s.data.toList.take j = s.data.toList := List.take_of_length_le (by omega)
   have e2 : s.data.toList.drop j = [] := List.drop_eq_nil_of_le (by omega)
   rw [e1, e2, List.append_nil] at hg
   have rs : ∀ K : Value → Prop, ropK .bytesToStr [.slice (some ⟨st.next, 0, none⟩) s.size s.size] s' K = K (.string (bs (s.data.toList.map qB))) := fun K => rk_toStr (K := K) (b := st.next) (o := 0) (n := s.size) (cap := s.size) hg (l := s.data.toList.map qB) (by rw [List.drop_zero, List.take_of_length_le (by simp)]) (by simp)
   have hmA : ∀ c ∈ s.data.toList.map qB, c.toNat < 128 := fun c hc => by
    obtain ⟨d, _, rfl⟩ := List.mem_map.1 hc
    exact qB_ascii d
   by_cases h0 : s.data.toList = []
   ·have e0 : (bs (s.data.toList.map qB) = ByteArray.empty) = True := by rw [h0]; exact eq_true rfl
    simp (disch := omega) only [↓sxA, ↓wk_store, sxB, sxP, simprocAttr]
    rw [rs]
    simp (disch := omega) only [↓sxA, ↓wk_store, sxB, sxP, simprocAttr]
    rw [if_pos (of_eq_true e0)]
    refine kEscaped n _ (by rw [size_bsl, List.length_map]; omega) fun s2 F2 => ?_
    simp (disch := omega) only [↓sxA, ↓wk_store, sxB, sxP, simprocAttr]
    have := h s2 (F.trans F2)
    unfold quoteL at this
    rw [if_neg (by simp [h0])] at this
    exact this
   have e0 : (bs (s.data.toList.map qB) = ByteArray.empty) = False := eq_false fun e => h0 (by
    have := congrArg (fun b : ByteArray => b.data.toList) e
    simpa [bs] using this)
   simp (disch := omega) only [↓sxA, ↓wk_store, sxB, sxP, simprocAttr]
   rw [rs]
   simp (disch := omega) only [↓sxA, ↓wk_store, sxB, sxP, simprocAttr]
   rw [if_neg (of_eq_false e0)]
   refine kContAny (n + 6) _ (by simp; omega) hmA ?_
   cases hq : (s.data.toList.map qB).any spc with
   | false =>
    simp (disch := omega) only [↓sxA, ↓wk_store, sxB, sxP, simprocAttr, Bool.not_false, Bool.not_true]
    have := h _ F
    unfold quoteL at this
    rw [if_pos ⟨h0, hq⟩] at this
    exact this
   | true =>
    simp (disch := omega) only [↓sxA, ↓wk_store, sxB, sxP, simprocAttr, Bool.not_false, Bool.not_true]
    refine kEscaped n _ (by rw [size_bsl, List.length_map]; omega) fun s2 F2 => ?_
    simp (disch := omega) only [↓sxA, ↓wk_store, sxB, sxP, simprocAttr]
    have := h s2 (F.trans F2)
    unfold quoteL at this
    rw [if_neg (by simp [hq])] at this
    exact this
end
end Go.Proofs.YtdmemibnphcedaaGreatDoor
