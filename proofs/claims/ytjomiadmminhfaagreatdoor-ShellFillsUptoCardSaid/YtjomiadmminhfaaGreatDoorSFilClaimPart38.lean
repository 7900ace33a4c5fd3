/-
  An item of a command file's line, by the program.
  A command file's line, by the chapter.
  A command file's line, filled by the chapter.
  A command file's line, filled by the program (the kit's walk: a builder).
-/
import Derived.Test.YtjomiadmminhfaaGreatDoorSFilClaimPart18
import Derived.Test.YtjomiadmminhfaaGreatDoorSFilClaimPart24
import Derived.Test.YtjomiadmminhfaaGreatDoorSFilClaimPart37
import Derived.Lib.IndexBytes
import Derived.Test.YtjomiadmminhfaaGreatDoorSFilClaimPart15
section
set_option linter.unusedSimpArgs false
set_option linter.unusedVariables false
set_option maxRecDepth 10000
set_option linter.unusedSectionVars false
namespace Go.Proofs.YtjomiadmminhfaaGreatDoor
open Go.Am

/-! ### a trim that leaves nothing -/
theorem dropWhile_nil {α : Type} {p : α → Bool} : ∀ {l : List α}, l.dropWhile p = [] ↔ ∀ x ∈ l, p x = true
 | [] => by simp
 | x :: l => by
  rw [List.dropWhile_cons]
  by_cases h : p x = true
  ·rw [if_pos h, dropWhile_nil]; simp [h]
  ·rw [if_neg h]; simp [h]
theorem dropWhile_head {α : Type} {p : α → Bool} : ∀ {l : List α} {x : α} {r : List α}, l.dropWhile p = x :: r → p x = false
 | [], _, _, h => by simp at h
 | y :: l, x, r, h => by
  rw [List.dropWhile_cons] at h
  by_cases hy : p y = true
  ·rw [if_pos hy] at h; exact dropWhile_head h
  ·rw [if_neg hy] at h; cases h; simpa using hy
theorem trimS_nil (l cs : List UInt8) : Lib.trimS l cs = [] ↔ ∀ b ∈ l, cs.contains b = true := by
 unfold Lib.trimS Lib.trimLeftS Lib.trimRightS
 rw [dropWhile_nil]
 constructor
 ·intro h
  have h0 : l.reverse.dropWhile (cs.contains ·) = [] := by
   cases hd : l.reverse.dropWhile (cs.contains ·) with
   | nil => rfl
   | cons x r =>
    have h1 := dropWhile_head hd
    have h2 := h x (by rw [hd]; simp)
    rw [h1] at h2
    cases h2
  have := dropWhile_nil.1 h0
  exact fun b hb => this b (by simpa using hb)
 ·intro h
  have h0 : l.reverse.dropWhile (cs.contains ·) = [] := dropWhile_nil.2 fun b hb => h b (by simpa using hb)
  rw [h0]
  simp
def letters : ByteArray := ⟨#[97, 98, 99, 100, 101, 102, 103, 104, 105, 106, 107, 108, 109, 110, 111, 112, 113, 114, 115, 116, 117, 118, 119, 120, 121, 122]⟩
theorem letters_has (b : UInt8) : letters.data.toList.contains b = sml b := by
 have h : ∀ n : Fin 256, letters.data.toList.contains (UInt8.ofNat n.val) = (decide (97 ≤ n.val) && decide (n.val ≤ 122)) := by decide +kernel
 have := h ⟨b.toNat, b.toNat_lt⟩
 unfold sml
 simpa using this
theorem trim_letters (l : List UInt8) : (trimV (bs l) letters = ByteArray.empty) ↔ l.all sml = true := by
 show bs (Lib.trimS (bs l).data.toList _) = _ ↔ _
 rw [bs_ne, bs_list, trimS_nil, List.all_eq_true]
 simp only [letters_has]

/-! ### a byte is looked for -/
theorem ib_split (c : UInt8) : ∀ l : List UInt8, (Lib.indexByte l c = -1 ∧ l.takeWhile (fun x => !(x == c)) = l ∧ l.dropWhile (fun x => !(x == c)) = []) ∨
  ∃ o : Nat, Lib.indexByte l c = (o : Int) ∧ o < l.length ∧ l.takeWhile (fun x => !(x == c)) = l.take o ∧ l.dropWhile (fun x => !(x == c)) = c :: l.drop (o + 1)
 | [] => .inl ⟨rfl, rfl, rfl⟩
 | b :: l => by
  by_cases hb : b = c
  ·subst hb
   refine .inr ⟨0, ?_, by simp, ?_, ?_⟩
   ·simp [Lib.indexByte]
   ·simp [List.takeWhile_cons]
   ·simp [List.dropWhile_cons]
  ·have e1 : (b == c) = false := by simpa using hb
   rcases ib_split c l with ⟨h1, h2, h3⟩ | ⟨o, h1, h2, h3, h4⟩
   ·refine .inl ⟨?_, ?_, ?_⟩
    ·simp [Lib.indexByte, e1, h1]
    ·rw [List.takeWhile_cons, e1]; simp [h2]
    ·rw [List.dropWhile_cons, e1]; simp [h3]
   ·refine .inr ⟨o + 1, ?_, by simp only [List.length_cons]; omega, ?_, ?_⟩
    ·have hne : ((o : Int) == -1) = false := by simp
     simp [Lib.indexByte, e1, h1, hne]
    ·rw [List.takeWhile_cons, e1]; simp [h3]
    ·rw [List.dropWhile_cons, e1]; simp [h4]
theorem no62_eq : no62 = fun x => !(x == (62 : UInt8)) := rfl
theorem no36_eq : no36 = fun x => !(x == (36 : UInt8)) := rfl
theorem cut36 (P : List UInt8) : (Lib.cut P [36]).1 = P.takeWhile no36 ∧ (Lib.cut P [36]).2.1 = (P.dropWhile no36).drop 1 := by
 unfold Lib.cut
 rw [Lib.index_one, no36_eq]
 rcases ib_split 36 P with ⟨h1, h2, h3⟩ | ⟨o, h1, h2, h3, h4⟩
 ·rw [h1, h2, h3, if_neg (by decide)]
  exact ⟨rfl, rfl⟩
 ·rw [h1, h3, h4, if_pos (by omega)]
  refine ⟨by simp, ?_⟩
  simp

/-- what stands for a name -/
noncomputable def valF (ns : List ByteArray) (cs : List Cl) (nm : List UInt8) : Option (List UInt8 → List UInt8) :=
 if nmI (bs nm) ns 0 = -1 then none else
  some fun other => match (clAt cs (nmI (bs nm) ns 0).toNat).vals with
   | v :: _ => v.data.toList
   | [] => if (clAt cs (nmI (bs nm) ns 0).toNat).set = true then (ns.getD (nmI (bs nm) ns 0).toNat .empty).data.toList else other
/-- what is put in the place of an item, and how many bytes that has -/
def itQ (val : List UInt8 → Option (List UInt8 → List UInt8)) (L : List UInt8) : List UInt8 × Nat := match itemP val (L.drop 1) with
 | some (v, rest) => (v, L.length - rest.length)
 | none => ([], 0)
def itV (x : List UInt8 × Nat) : Value := .tuple #[.string (bs x.1), .int .i64 ((x.2 : Nat) : Int)]

attribute [local irreducible] callO wopK ropK popK opK grpsE listE sx Runs

section
variable {st : St} {K : Value → St → Prop} {ns : List ByteArray} {cs : List Cl} {lv : Value}

theorem kIdxB (n : Nat) (s : ByteArray) (c : Int) (h : K (.int .i64 (Lib.indexByte s.data.toList c.toNat.toUInt8)) st) : callK (callO T0 orc fns 100000 n) 25 [.string s, .int .u8 c] st K := by
 rw [callO_none (by rfl)]
 have e : orc 25 [.string s, .int .u8 c] st = .ret (.int .i64 (Lib.indexByte s.data.toList c.toNat.toUInt8), st) := by
  rw [orc_eq (by decide)]
  simp [orc1]
 exact (propext (callK_ret (K := K) e)).mpr h
theorem kCut36 (n : Nat) (s : ByteArray) (hs : s.size ≤ 90000) (hm : hasMax st = true) (h : ∀ b, K (.tuple #[.string (bs (s.data.toList.takeWhile no36)), .string (bs ((s.data.toList.dropWhile no36).drop 1)), .bool b]) st) : callK (callO T0 orc fns 100000 n) 53 [.string s, .string ⟨#[36]⟩] st K := by
 rw [callO_none (by rfl)]
 have e : orc 53 [.string s, .string ⟨#[36]⟩] st = .ret (cutV s ⟨#[36]⟩, st) := by
  rw [orc_eq (by decide)]
  have h1 : s.size < 4294967281 := by omega
  simp [orc1, hm, h1]
 refine (propext (callK_ret (K := K) e)).mpr ?_
 have := h (Lib.cut s.data.toList [36]).2.2
 obtain ⟨c1, c2⟩ := cut36 s.data.toList
 rw [← c1, ← c2] at this
 exact this
theorem kTrimL (n : Nat) (s : ByteArray) (hs : s.size ≤ 90000) (h : K (.string (trimV s letters)) st) : callK (callO T0 orc fns 100000 n) 15 [.string s, .string letters] st K := by
 rw [callO_none (by rfl)]
 have e : orc 15 [.string s, .string letters] st = .ret (.string (trimV s letters), st) := by
  rw [orc_eq (by decide)]
  have h0 : s.size ≤ 4294967280 := by omega
  have h1 : letters.size < 4294967281 := by decide
  have h2 : asciiB letters = true := by decide +kernel
  simp [orc1, h0, h1, h2]
 exact (propext (callK_ret (K := K) e)).mpr h

set_option maxHeartbeats 4000000 in
theorem kItem (n : Nat) (s : ByteArray) (hs : s.size ≤ 80000) (h60 : s.data.toList[0]? = some 60) (h0 : 0 < st.next) (hm : hasMax st = true) (hA : AgC st lv ns cs) (hns : ns.length = cs.length) (hl : cs.length < 90000)
  (h : ∀ st', K (itV (itQ (valF ns cs) s.data.toList)) st') :
  callK (callO T0 orc fns 100000 (n + 5)) 27 [.string s, lv] st K := by
 refine fn_runs (fn := g27) ?_ ?_ ?_
 ·rfl
 ·rfl
 unfold g27
 have hsz := size_list s
 obtain ⟨r, hL⟩ : ∃ r, s.data.toList = 60 :: r := by
  have := drop_at h60
  rw [List.drop_zero] at this
  exact ⟨_, this⟩
 have e0 : (s.data.toList).drop 1 = r := by rw [hL]; rfl
 have hlen : s.size = r.length + 1 := by rw [hsz, hL]; simp
 have e1 : s.data.toList.takeWhile no62 = 60 :: r.takeWhile no62 := by rw [hL, List.takeWhile_cons]; rfl
 have e2 : s.data.toList.dropWhile no62 = r.dropWhile no62 := by rw [hL, List.dropWhile_cons]; rfl
 simp (disch := omega) only [↓sxA, ↓wk_store, sxB, sxP, simprocAttr]
 refine kIdxB _ s 62 ?_
 have eu : (62 : Int).toNat.toUInt8 = 62 := rfl
 rw [eu]
 rcases ib_split 62 s.data.toList with ⟨i1, i2, i3⟩ | ⟨o, i1, i2, i3, i4⟩
 ·rw [i1]
  simp (disch := omega) only [↓sxA, ↓wk_store, sxB, sxP, simprocAttr]
  have hq : itQ (valF ns cs) s.data.toList = ([], 0) := by
   unfold itQ itemP
   rw [e0, ← e2, no62_eq, i3]
  rw [hq] at h
  exact h _
 ·rw [i1]
  rw [← no62_eq] at i3 i4
  rw [e1] at i3
  rw [e2] at i4
  have ho : 1 ≤ o := by
   rcases Nat.eq_zero_or_pos o with rfl | h
   ·rw [List.take_zero] at i3; cases i3
   ·exact h
  have hP : List.take (o - 1) (List.drop 1 s.data.toList) = r.takeWhile no62 := by
   rw [e0]
   obtain ⟨o', rfl⟩ : ∃ o', o = o' + 1 := ⟨o - 1, by omega⟩
   rw [hL, List.take_succ_cons] at i3
   injection i3 with _ i5
   rw [i5]
   rfl
  have hrest : (r.dropWhile no62) = 62 :: s.data.toList.drop (o + 1) := i4
  simp (disch := omega) only [↓sxA, ↓wk_store, sxB, sxP, simprocAttr, q_slBoth, Int.toNat_natCast, Int.toNat_one, extract_bs, hP]
  generalize hPn : r.takeWhile no62 = P at hP ⊢
  have hPs : P.length ≤ 80000 := by
   have := congrArg List.length hP
   rw [List.length_take, List.length_drop, ← hsz] at this
   omega
  refine kCut36 _ (bs P) (by rw [bs_size]; omega) hm fun bb => ?_
  rw [bs_list]
  simp (disch := omega) only [↓sxA, ↓wk_store, sxB, sxP, simprocAttr]
  refine kGet (n + 1) hA hns hl fun a u c ok s2 hG F2 => ?_
  have hitem : itQ (valF ns cs) s.data.toList = match (if (P.takeWhile no36).all sml = true then (valF ns cs (P.takeWhile no36)).map fun f => (f ((P.dropWhile no36).drop 1), s.data.toList.drop (o + 1)) else none : Option (List UInt8 × List UInt8)) with
    | some (v, rest) => (v, s.data.toList.length - rest.length)
    | none => ([], 0) := by
   unfold itQ itemP
   rw [e0, hrest, hPn]
  rcases hG with ⟨g1, rfl, rfl, rfl, rfl⟩ | ⟨j, j1, j2, rfl, rfl, rfl, j3, j4, j5⟩
  ·have hv : valF ns cs (P.takeWhile no36) = none := by unfold valF; rw [if_pos g1]
   have hq : itQ (valF ns cs) s.data.toList = ([], 0) := by
    rw [hitem, hv]
    split <;> rename_i heq <;> simp at heq <;> rfl
   rw [hq] at h
   simp (disch := omega) only [↓sxA, ↓wk_store, sxB, sxP, simprocAttr]
   exact h _
  ·have hc := one_cells j3
   have hn2 := F2.nx
   simp (disch := omega) only [↓sxA, ↓wk_store, sxB, sxP, simprocAttr, hc, j3]
   obtain ⟨s3, hs3⟩ : ∃ s3, s3 = (s2.new (.row [.string .empty, .slice none 0 0, .bool false] 0 false)).put s2.next (some (.row [.string (ns.getD j .empty), u, .bool (clAt cs j).set] 0 false)) := ⟨_, rfl⟩
   have hb3 : s3.get s2.next = some (.row [.string (ns.getD j .empty), u, .bool (clAt cs j).set] 0 false) := by rw [hs3]; exact get_put_same _ _ _
   have hu3 : Cel s3 u ((clAt cs j).vals.map Value.string) := j5.keep fun i hi => by
    rw [hs3, get_put_ne _ _ _ _ (by omega)]
    exact get_new_ne _ _ _ (by omega)
   rw [← hs3]
   clear hs3
   generalize hX : P.takeWhile no36 = X at *
   have hXl : X.length ≤ P.length := by rw [← hX]; exact (List.takeWhile_prefix _).length_le
   have hjn : (j : Int).toNat = j := Int.toNat_natCast j
   have hrl : s.data.toList.length - (s.data.toList.drop (o + 1)).length = o + 1 := by rw [List.length_drop]; omega
   show callK _ _ [_, .string letters] _ _
   refine kTrimL _ _ (by rw [bs_size]; omega) ?_
   by_cases hall : X.all sml = true
   ·rw [(trim_letters _).2 hall]
    have hv : valF ns cs X = some fun other => match (clAt cs j).vals with
      | v :: _ => v.data.toList
      | [] => if (clAt cs j).set = true then (ns.getD j .empty).data.toList else other := by
     unfold valF
     rw [j2, if_neg (by omega), hjn]
    rw [if_pos hall, hv] at hitem
    simp only [Option.map_some] at hitem
    rw [hrl] at hitem
    rw [hitem] at h
    unfold itV at h
    have ln := len_cel hu3
    have ix := idx_cel hu3
    have ld := load_cel hu3
    cases hvals : (clAt cs j).vals with
    | cons v vs =>
     rw [hvals] at ln ix ld h
     simp only [List.map_cons, List.length_cons, List.length_map] at ln ix ld
     simp (disch := omega) only [↓sxA, ↓wk_store, sxB, sxP, simprocAttr, ↓hb3, ↓ln, ↓ix, ↓ld, hc, j3]
     have := h s3
     rw [bs_of] at this
     exact this
    | nil =>
     rw [hvals] at ln ix ld h
     simp only [List.map_nil, List.length_nil] at ln ix ld
     cases hset : (clAt cs j).set with
     | true =>
      rw [hset] at hb3 h
      simp (disch := omega) only [↓sxA, ↓wk_store, sxB, sxP, simprocAttr, ↓hb3, ↓ln, hc, j3]
      have := h s3
      rw [if_pos rfl, bs_of] at this
      exact this
     | false =>
      rw [hset] at hb3 h
      simp (disch := omega) only [↓sxA, ↓wk_store, sxB, sxP, simprocAttr, ↓hb3, ↓ln, hc, j3]
      exact h s3
   ·have hne : (trimV (bs X) letters = ByteArray.empty) = False := eq_false fun e => hall ((trim_letters _).1 e)
    rw [if_neg hall] at hitem
    rw [hitem] at h
    generalize trimV (bs X) letters = T at hne ⊢
    simp (disch := omega) only [↓sxA, ↓wk_store, sxB, sxP, simprocAttr, hne]
    exact h _
end
end Go.Proofs.YtjomiadmminhfaaGreatDoor
end
section
set_option linter.unusedSimpArgs false
set_option linter.unusedVariables false
set_option maxRecDepth 10000
set_option linter.unusedSectionVars false
namespace Go.Proofs.YtjomiadmminhfaaGreatDoor
open Go.Am

theorem tw_stop {p : UInt8 → Bool} {L : List UInt8} {k : Nat} (hk : k ≤ L.length) (hn : ∀ c, L[k]? = some c → p c = false) : ∀ (d a : Nat), a + d = k → (∀ m, a ≤ m → m < k → ∀ c, L[m]? = some c → p c = true) →
  (L.drop a).takeWhile p = (L.drop a).take d ∧ (L.drop a).dropWhile p = L.drop k
 | 0, a, e, _ => by
  have e' : a = k := by omega
  subst e'
  by_cases h : a < L.length
  ·have hc : L[a]? = some L[a] := List.getElem?_eq_getElem h
   rw [drop_at hc, List.takeWhile_cons, List.dropWhile_cons, hn _ hc]
   exact ⟨rfl, rfl⟩
  ·rw [List.drop_eq_nil_of_le (by omega)]
   exact ⟨rfl, rfl⟩
 | d + 1, a, e, h => by
  have hl : a < L.length := by omega
  have hc : L[a]? = some L[a] := List.getElem?_eq_getElem hl
  obtain ⟨h1, h2⟩ := tw_stop hk hn d (a + 1) (by omega) fun m h1 h2 => h m (by omega) h2
  have := h a (Nat.le_refl _) (by omega) _ hc
  rw [drop_at hc, List.takeWhile_cons, List.dropWhile_cons, this]
  exact ⟨by rw [if_pos rfl, h1, List.take_succ_cons], h2⟩
section
variable {val : List UInt8 → Option (List UInt8 → List UInt8)} {L rest v : List UInt8} {i k e : Nat} {c : UInt8}
theorem fs_not (h : L[i]? = some c) (h1 : c ≠ 60) : fillL val (L.drop i) = c :: fillL val (L.drop (i + 1)) := by
 rw [drop_at h, fillL, if_neg h1]
theorem fs_none (h : L[i]? = some 60) (h1 : itemL val (L.drop (i + 1)) = none) : fillL val (L.drop i) = 60 :: fillL val (L.drop (i + 1)) := by
 rw [drop_at h, fillL, if_pos rfl]
 split
 ·rename_i h2; rw [h1] at h2; cases h2
 ·rfl
theorem fs_some (h : L[i]? = some 60) (h1 : itemL val (L.drop (i + 1)) = some (v, rest)) : fillL val (L.drop i) = v ++ fillL val rest := by
 rw [drop_at h, fillL, if_pos rfl]
 split
 ·rename_i h2; rw [h1] at h2; cases h2; rfl
 ·rename_i h2; rw [h1] at h2; cases h2
/-- what the small letters behind a < tell -/
theorem il_end (hd : (L.drop (i + 1)).dropWhile sml = []) : itemL val (L.drop (i + 1)) = none := by
 unfold itemL; rw [hd]
theorem il_oth {d : UInt8} {r : List UInt8} (hd : (L.drop (i + 1)).dropWhile sml = d :: r) (h1 : d ≠ 62) (h2 : d ≠ 36) : itemL val (L.drop (i + 1)) = none := by
 unfold itemL; rw [hd]; simp only; rw [if_neg h1, if_neg h2]
theorem il_no {d : UInt8} {r nm : List UInt8} (hd : (L.drop (i + 1)).dropWhile sml = d :: r) (ht : (L.drop (i + 1)).takeWhile sml = nm) (hv : val nm = none) : itemL val (L.drop (i + 1)) = none := by
 unfold itemL; rw [hd, ht, hv]; simp only [Option.map_none]
 split
 ·rfl
 ·split
  ·split <;> rfl
  ·rfl
theorem il_gt {r nm : List UInt8} {f : List UInt8 → List UInt8} (hd : (L.drop (i + 1)).dropWhile sml = 62 :: r) (ht : (L.drop (i + 1)).takeWhile sml = nm) (hv : val nm = some f) : itemL val (L.drop (i + 1)) = some (f [], r) := by
 unfold itemL; rw [hd, ht, hv]; rfl
theorem il_open {r : List UInt8} (hd : (L.drop (i + 1)).dropWhile sml = 36 :: r) (h2 : r.dropWhile no62 = []) : itemL val (L.drop (i + 1)) = none := by
 unfold itemL; rw [hd]; simp only; rw [if_neg (by decide), if_pos trivial, h2]
theorem il_dol {r nm rs : List UInt8} {x : UInt8} {f : List UInt8 → List UInt8} (hd : (L.drop (i + 1)).dropWhile sml = 36 :: r) (ht : (L.drop (i + 1)).takeWhile sml = nm) (hv : val nm = some f) (h2 : r.dropWhile no62 = x :: rs) : itemL val (L.drop (i + 1)) = some (f (r.takeWhile no62), rs) := by
 unfold itemL; rw [hd, ht, hv]; simp only; rw [if_neg (by decide), if_pos trivial, h2]; rfl
end

attribute [local irreducible] callO wopK ropK popK opK grpsE listE sx Runs

section
variable {st : St} {K : Value → St → Prop} {ns : List ByteArray} {cs : List Cl} {lv : Value}

theorem kSmall (n : Nat) (c : UInt8) (h : K (.bool (sml c)) st) : callK (callO T0 orc fns 100000 (n + 1)) 29 [.int .u8 (c.toNat : Int)] st K := by
 refine fn_runs (fn := g29) ?_ ?_ ?_
 ·rfl
 ·rfl
 unfold g29
 have hc := c.toNat_lt
 unfold sml at h
 by_cases h1 : 97 ≤ c.toNat
 ·rw [decide_eq_true h1] at h
  by_cases h2 : c.toNat ≤ 122
  ·rw [decide_eq_true h2] at h
   simp (disch := omega) only [↓sxA, ↓wk_store, sxB, sxP, simprocAttr]
   exact h
  ·rw [decide_eq_false h2] at h
   simp (disch := omega) only [↓sxA, ↓wk_store, sxB, sxP, simprocAttr]
   exact h
 ·rw [decide_eq_false h1] at h
  simp (disch := omega) only [↓sxA, ↓wk_store, sxB, sxP, simprocAttr]
  exact h

theorem kFindR (n : Nat) (x : ByteArray) (hA : AgC st lv ns cs) (hns : ns.length = cs.length) (hl : cs.length < 90000) (h : K (.int .i64 (nmI x ns 0)) st) :
  callK (callO T0 orc fns 100000 (n + 1)) 30 [lv, .string x] st K := by
 refine fn_runs (fn := g30) ?_ ?_ ?_
 ·rfl
 ·rfl
 unfold g30
 have la := hA.1
 simp (disch := omega) only [↓sxA, ↓wk_store, sxB, sxP, simprocAttr]
 refine loop_rule [0, 1, 5] (fun vs s => s = st ∧ ∃ j : Nat, vs = [lv, .string x, .int .i64 j] ∧ j ≤ cs.length ∧ nmI x (ns.drop j) j = nmI x ns 0) (fun vs _ => match lget vs 2 with
   | .int _ k => ((cs.length : Int) - k).toNat
   | _ => 0) ?_ ?_ ?_
 ·rfl
 ·refine ⟨_, rfl, ⟨rfl, 0, rfl, Nat.zero_le _, rfl⟩, ?_⟩
  show ((cs.length : Int) - 0).toNat < 100000
  omega
 ·rintro vs s ⟨rfl, j, rfl, j1, hk⟩
  show sx _ _ _ _ _ [(0, _), (1, _), (5, _)] _ _ _ _
  by_cases hj : j < cs.length
  ·obtain ⟨bb, vv, o1, o2, o3, o4⟩ := hA.2 j hj
   obtain ⟨p1, p2, p3, p4, p5⟩ := o4 _ (Frm.refl _)
   rw [nmI_at (by omega)] at hk
   by_cases hin : ns.getD j .empty = x
   ·rw [if_pos hin] at hk
    rw [← hk] at h
    have e1 : (ns.getD j .empty = x) = True := eq_true hin
    simp (disch := omega) only [↓sxA, ↓wk_store, sxB, sxP, simprocAttr, ↓la, ↓o1, ↓p2, e1]
    exact h
   ·rw [if_neg hin] at hk
    have e1 : (ns.getD j .empty = x) = False := eq_false hin
    simp (disch := omega) only [↓sxA, ↓wk_store, sxB, sxP, simprocAttr, ↓la, ↓o1, ↓p2, e1]
    refine ⟨_, rfl, ⟨j + 1, by simp, hj, hk⟩, ?_⟩
    show ((cs.length : Int) - ((j : Int) + 1)).toNat < ((cs.length : Int) - j).toNat
    omega
  ·have e : ns.drop j = [] := List.drop_eq_nil_of_le (by omega)
   rw [e] at hk
   simp only [nmI] at hk
   rw [← hk] at h
   simp (disch := omega) only [↓sxA, ↓wk_store, sxB, sxP, simprocAttr, ↓la]
   exact h

/-- what stands for an item or for its default -/
def vlF (vals : List ByteArray) (set : Bool) (nm : ByteArray) (other : List UInt8) : List UInt8 := match vals with
 | v :: _ => v.data.toList
 | [] => if set = true then nm.data.toList else other
theorem kValueR (n : Nat) {a : ByteArray} {u : Value} {vals : List ByteArray} {set : Bool} (o : List UInt8) (ho : oneCell u = true) (hw : ow u ≤ st.next) (hu : Cel st u (vals.map Value.string))
  (h : ∀ st', Frm st st' → K (.string (bs (vlF vals set a o))) st') :
  callK (callO T0 orc fns 100000 (n + 1)) 31 [.agg #[.string a, u, .bool set], .string (bs o)] st K := by
 refine fn_runs (fn := g31) ?_ ?_ ?_
 ·rfl
 ·rfl
 unfold g31
 have F := Frm.new st (.row [.string a, u, .bool set] 0 false)
 have hbx : (st.new (.row [.string a, u, .bool set] 0 false)).get st.next = some (.row [.string a, u, .bool set] 0 false) := get_new_same _ _
 have hc := one_cells ho
 have hu3 : Cel (st.new (.row [.string a, u, .bool set] 0 false)) u (vals.map Value.string) := hu.keep fun i hi => get_new_ne _ _ _ (by omega)
 have ln := len_cel hu3
 have ix := idx_cel hu3
 have ld := load_cel hu3
 have h' := h _ F
 cases vals with
 | cons v vs =>
  simp only [List.map_cons, List.length_cons, List.length_map] at ln ix ld
  simp (disch := omega) only [↓sxA, ↓wk_store, sxB, sxP, simprocAttr, ↓hbx, ↓ln, ↓ix, ↓ld, hc, ho]
  have h' := h'
  unfold vlF at h'
  simp only at h'
  rw [bs_of] at h'
  exact h'
 | nil =>
  simp only [List.map_nil, List.length_nil] at ln ix ld
  cases set with
  | true =>
   simp (disch := omega) only [↓sxA, ↓wk_store, sxB, sxP, simprocAttr, ↓hbx, ↓ln, hc, ho]
   unfold vlF at h'
   rw [if_pos rfl, bs_of] at h'
   exact h'
  | false =>
   simp (disch := omega) only [↓sxA, ↓wk_store, sxB, sxP, simprocAttr, ↓hbx, ↓ln, hc, ho]
   exact h'
end
end Go.Proofs.YtjomiadmminhfaaGreatDoor
end
section
set_option linter.unusedSimpArgs false
set_option linter.unusedVariables false
set_option maxRecDepth 10000
set_option linter.unusedSectionVars false
namespace Go.Proofs.YtjomiadmminhfaaGreatDoor
open Go.Am

theorem bs_app (a b : List UInt8) : bs a ++ bs b = bs (a ++ b) := by
 have h1 : (bs a ++ bs b).data.toList = (bs (a ++ b)).data.toList := by simp [bs]
 have := congrArg bs h1
 rw [bs_of, bs_of] at this
 exact this
theorem valF_none {ns : List ByteArray} {cs : List Cl} {nm : List UInt8} (h : nmI (bs nm) ns 0 = -1) : valF ns cs nm = none := by
 unfold valF; rw [if_pos h]
theorem valF_some {ns : List ByteArray} {cs : List Cl} {nm : List UInt8} {j : Nat} (h : nmI (bs nm) ns 0 = (j : Int)) : valF ns cs nm = some (vlF (clAt cs j).vals (clAt cs j).set (ns.getD j .empty)) := by
 unfold valF
 rw [if_neg (by omega), h, Int.toNat_natCast]
 rfl
theorem grow_le {i e W a b : Nat} (h : a ≤ i * W) (hb : b ≤ W) (hie : i + 1 ≤ e) : a + b ≤ e * W := by
 have h1 := Nat.mul_le_mul_right W hie
 rw [Nat.succ_mul] at h1
 omega
attribute [local irreducible] callO wopK ropK popK opK grpsE listE sx Runs

section
variable {st : St} {K : Value → St → Prop} {ns : List ByteArray} {cs : List Cl} {lv : Value}

set_option maxHeartbeats 8000000 in
theorem kFillR (n : Nat) (s : ByteArray) (hs : s.size ≤ 80000) (hA : AgC st lv ns cs) (hns : ns.length = cs.length) (hl : cs.length < 90000) {M : Nat} (hM : ∀ (j : Nat) (o : List UInt8), (vlF (clAt cs j).vals (clAt cs j).set (ns.getD j .empty) o).length ≤ M + o.length) (hMs : M ≤ 35184372088832)
  (h : ∀ st', Frm st st' → K (.string (bs (fillL (valF ns cs) s.data.toList))) st') :
  callK (callO T0 orc fns 100000 (n + 2)) 12 [.string s, lv] st K := by
 refine fn_runs (fn := g12) ?_ ?_ ?_
 ·rfl
 ·rfl
 unfold g12
 have hsz := size_list s
 obtain ⟨W, hW⟩ : ∃ W, W = M + 80001 := ⟨_, rfl⟩
 simp (disch := omega) only [↓sxA, ↓wk_store, sxB, sxP, simprocAttr]
 refine loop_rule [0, 1, 5, 6] (fun vs s1 => ∃ (i : Nat) (out : List UInt8), vs = [.string s, lv, .string (bs out), .int .i64 (i : Nat)] ∧ i ≤ s.size ∧ Frm st s1 ∧ out.length ≤ i * W ∧ out ++ fillL (valF ns cs) (s.data.toList.drop i) = fillL (valF ns cs) s.data.toList) (fun vs _ => match lget vs 3 with
   | .int _ k => ((s.size : Int) - k).toNat
   | _ => 0) ?_ ?_ ?_
 ·rfl
 ·refine ⟨_, rfl, ⟨0, [], rfl, Nat.zero_le _, Frm.refl _, Nat.zero_le _, rfl⟩, ?_⟩
  show ((s.size : Int) - 0).toNat < 100000
  omega
 ·rintro vs s1 ⟨i, out, rfl, hi, F, hout, hk⟩
  show sx _ _ _ _ _ [(0, _), (1, _), (5, _), (6, _)] _ _ _ _
  by_cases hil : i < s.size
  case neg =>
   have e : s.data.toList.drop i = [] := List.drop_eq_nil_of_le (by omega)
   rw [e, fillL, List.append_nil] at hk
   rw [← hk] at h
   simp (disch := omega) only [↓sxA, ↓wk_store, sxB, sxP, simprocAttr]
   exact h _ F
  case pos =>
   obtain ⟨c, hc, hg, hb⟩ := byte_at s i hil
   have hA1 := hA.keep F
   have hmul : i * W ≤ 80000 * W := Nat.mul_le_mul_right W (by omega)
   have cat : ∀ (x : List UInt8), x.length ≤ W → (bs out).size + (bs x).size ≤ 9223372036854775807 := by
    intro x hx
    rw [bs_size, bs_size]
    omega
   have grw : ∀ (x : List UInt8) (e : Nat), x.length ≤ W → i + 1 ≤ e → (out ++ x).length ≤ e * W := by
    intro x e hx he
    rw [List.length_append]
    exact grow_le hout hx he
   have c1W : ([c] : List UInt8).length ≤ W := by rw [List.length_singleton]; omega
   have vW : ∀ (j : Nat) (o : List UInt8), o.length ≤ 80000 → (vlF (clAt cs j).vals (clAt cs j).set (ns.getD j .empty) o).length ≤ W := by
    intro j o ho
    have := hM j o
    omega
   simp (disch := omega) only [↓sxA, ↓wk_store, sxB, sxP, simprocAttr]
   refine loop_rule [0, 1, 5, 6, 7] (fun vs s2 => s2 = s1 ∧ ∃ k : Nat, vs = [.string s, lv, .string (bs out), .int .i64 (i : Nat), .int .i64 (k : Nat)] ∧ i + 1 ≤ k ∧ k ≤ s.size ∧ ∀ m, i + 1 ≤ m → m < k → ∀ c, s.data.toList[m]? = some c → sml c = true) (fun vs _ => match lget vs 4 with
    | .int _ k => ((s.size : Int) - k).toNat
    | _ => 0) ?_ ?_ ?_
   ·rfl
   ·refine ⟨_, rfl, ⟨rfl, i + 1, by simp, by omega, by omega, fun m h1 h2 => by omega⟩, ?_⟩
    show ((s.size : Int) - ((i : Int) + 1)).toNat < 100000
    omega
   ·rintro vs s2 ⟨rfl, k, rfl, k1, k2, k3⟩
    show sx _ _ _ _ _ [(0, _), (1, _), (5, _), (6, _), (7, _)] _ _ _ _
    have hh : (∃ d, s.data.toList[k]? = some d ∧ sml d = true) ∨ ∀ d, s.data.toList[k]? = some d → sml d = false := by
     cases hd : s.data.toList[k]? with
     | none => exact .inr fun d e => by cases e
     | some d =>
      cases hs : sml d with
      | true => exact .inl ⟨d, rfl, hs⟩
      | false => exact .inr fun d' e => by cases e; exact hs
    rcases hh with ⟨d, hd, hs1⟩ | hst
    ·have hkl : k < s.size := by
      have := (List.getElem?_eq_some_iff.1 hd).1
      omega
     obtain ⟨d', hd', hgd, hbd⟩ := byte_at s k hkl
     rw [hd] at hd'
     cases hd'
     simp (disch := omega) only [q_indexStr, Int.toNat_natCast, hgd, ↓sxA, ↓wk_store, sxB, sxP, simprocAttr]
     refine kSmall _ d ?_
     rw [hs1]
     simp (disch := omega) only [↓sxA, ↓wk_store, sxB, sxP, simprocAttr]
     refine ⟨_, rfl, ⟨k + 1, by simp, by omega, by omega, fun m h1 h2 c' hc' => ?_⟩, ?_⟩
     ·rcases Nat.lt_or_ge m k with h3 | h3
      ·exact k3 m h1 h3 c' hc'
      ·have : m = k := by omega
       subst this
       rw [hd] at hc'
       cases hc'
       exact hs1
     ·show ((s.size : Int) - ((k : Int) + 1)).toNat < ((s.size : Int) - k).toNat
      omega
    ·obtain ⟨tw, dw⟩ := tw_stop (p := sml) (L := s.data.toList) (k := k) (by omega) hst (k - (i + 1)) (i + 1) (by omega) k3
     have app : fillL (valF ns cs) (s.data.toList.drop i) = c :: fillL (valF ns cs) (s.data.toList.drop (i + 1)) →
       (out ++ [c]) ++ fillL (valF ns cs) (s.data.toList.drop (i + 1)) = fillL (valF ns cs) s.data.toList := by
      intro e
      rw [← hk, e]
      simp
     have ei : ((i : Int) + 1).toNat = i + 1 := by omega
     have one : List.take (i + 1 - i) (List.drop i s.data.toList) = [c] := by
      rw [drop_at hc, Nat.add_sub_cancel_left]
      rfl
     by_cases hkl : k < s.size
     ·obtain ⟨d, hd, hgd, hbd⟩ := byte_at s k hkl
      have hs1 := hst d hd
      have dw' := dw.trans (drop_at hd)
      simp (disch := omega) only [q_indexStr, Int.toNat_natCast, hgd, ↓sxA, ↓wk_store, sxB, sxP, simprocAttr]
      refine kSmall _ d ?_
      rw [hs1]
      by_cases hc60 : c = 60
      ·have e60 : ((c.toNat : Int) = 60) = True := eq_true (by rw [hc60]; rfl)
       by_cases hd62 : d = 62
       ·have a1 : ((d.toNat : Int) = 62) = True := eq_true (by rw [hd62]; rfl)
        have a2 : ((d.toNat : Int) = 36) = False := eq_false (by rw [hd62]; decide)
        simp (disch := omega) only [q_indexStr, Int.toNat_natCast, hgd, hg, e60, a1, a2, q_slBoth, extract_bs, ei, ↓sxA, ↓wk_store, sxB, sxP, simprocAttr]
        refine kFindR _ _ hA1 hns hl ?_
        rcases nmI_lt (x := bs (List.take (k - (i + 1)) (List.drop (i + 1) s.data.toList))) ns 0 with hm | hm
        ·have happ := fs_none (hc60 ▸ hc) (il_no (val := valF ns cs) dw' tw (valF_none hm))
         rw [← hc60] at happ
         rw [hm]
         simp (disch := omega) only [↓sxA, ↓wk_store, sxB, sxP, simprocAttr]
         refine loop_rule [0, 1, 5, 6, 7, 8, 9] (fun vs s3 => s3 = s2 ∧ vs = [.string s, lv, .string (bs out), .int .i64 (i : Nat), .int .i64 (k : Nat), .int .i64 (-1), .int .i64 (k : Nat)]) (fun _ _ => 0) ?_ ?_ ?_
         ·rfl
         ·exact ⟨_, rfl, ⟨rfl, rfl⟩, by show 0 < 100000; omega⟩
         ·rintro vs s3 ⟨rfl, rfl⟩
          show sx _ _ _ _ _ [(0, _), (1, _), (5, _), (6, _), (7, _), (8, _), (9, _)] _ _ _ _
          simp (disch := omega) only [↓sxA, ↓wk_store, sxB, sxP, simprocAttr, q_slBoth, Int.toNat_natCast, ei, extract_bs, one, bs_app]
          refine ⟨cat _ c1W, _, rfl, ⟨i + 1, out ++ [c], by simp, by omega, F, grw _ _ c1W (Nat.le_refl _), app happ⟩, ?_⟩
          show ((s.size : Int) - ((i : Int) + 1)).toNat < ((s.size : Int) - i).toNat
          omega
        ·obtain ⟨j, hj⟩ : ∃ j : Nat, nmI (bs (List.take (k - (i + 1)) (List.drop (i + 1) s.data.toList))) ns 0 = (j : Int) := ⟨(nmI (bs (List.take (k - (i + 1)) (List.drop (i + 1) s.data.toList))) ns 0).toNat, by omega⟩
         have hjl : j < cs.length := by omega
         have hvs := valF_some (cs := cs) hj
         obtain ⟨bb, vv, o1, o2, o3, o4⟩ := hA1.2 j hjl
         obtain ⟨p1, p2, p3, p4, p5⟩ := o4 _ (Frm.refl _)
         rw [hj]
         simp (disch := omega) only [↓sxA, ↓wk_store, sxB, sxP, simprocAttr]
         have hit := fs_some (hc60 ▸ hc) (il_gt (val := valF ns cs) (by rw [dw', hd62]) tw hvs)
         rw [hit] at hk
         refine loop_rule [0, 1, 5, 6, 7, 8, 9] (fun vs s3 => s3 = s2 ∧ vs = [.string s, lv, .string (bs out), .int .i64 (i : Nat), .int .i64 (k : Nat), .int .i64 (j : Nat), .int .i64 (k : Nat)]) (fun _ _ => 0) ?_ ?_ ?_
         ·rfl
         ·exact ⟨_, rfl, ⟨rfl, rfl⟩, by show 0 < 100000; omega⟩
         ·rintro vs s3 ⟨rfl, rfl⟩
          show sx _ _ _ _ _ [(0, _), (1, _), (5, _), (6, _), (7, _), (8, _), (9, _)] _ _ _ _
          simp (disch := omega) only [q_indexStr, Int.toNat_natCast, hgd, a1, a2, ↓o1, ↓p1, ↓sxA, ↓wk_store, sxB, sxP, simprocAttr]
          refine kValueR _ [] o2 o3 p5 fun s4 F4 => ?_
          simp (disch := omega) only [↓sxA, ↓wk_store, sxB, sxP, simprocAttr, bs_app]
          refine ⟨cat _ (vW j [] (Nat.zero_le _)), _, rfl, ⟨k + 1, out ++ vlF (clAt cs j).vals (clAt cs j).set (ns.getD j .empty) [], by simp, by omega, F.trans F4, grw _ _ (vW j [] (Nat.zero_le _)) (by omega), by rw [List.append_assoc]; exact hk⟩, ?_⟩
          show ((s.size : Int) - ((k : Int) + 1)).toNat < ((s.size : Int) - i).toNat
          omega
       ·have a1 : ((d.toNat : Int) = 62) = False := eq_false fun e => hd62 (u8_eq (n := 62) e)
        by_cases hd36 : d = 36
        ·have a2 : ((d.toNat : Int) = 36) = True := eq_true (by rw [hd36]; rfl)
         simp (disch := omega) only [q_indexStr, Int.toNat_natCast, hgd, hg, e60, a1, a2, q_slBoth, extract_bs, ei, ↓sxA, ↓wk_store, sxB, sxP, simprocAttr]
         refine kFindR _ _ hA1 hns hl ?_
         rcases nmI_lt (x := bs (List.take (k - (i + 1)) (List.drop (i + 1) s.data.toList))) ns 0 with hm | hm
         ·have happ := fs_none (hc60 ▸ hc) (il_no (val := valF ns cs) dw' tw (valF_none hm))
          rw [← hc60] at happ
          rw [hm]
          simp (disch := omega) only [↓sxA, ↓wk_store, sxB, sxP, simprocAttr]
          refine loop_rule [0, 1, 5, 6, 7, 8, 9] (fun vs s3 => s3 = s2 ∧ vs = [.string s, lv, .string (bs out), .int .i64 (i : Nat), .int .i64 (k : Nat), .int .i64 (-1), .int .i64 (k : Nat)]) (fun _ _ => 0) ?_ ?_ ?_
          ·rfl
          ·exact ⟨_, rfl, ⟨rfl, rfl⟩, by show 0 < 100000; omega⟩
          ·rintro vs s3 ⟨rfl, rfl⟩
           show sx _ _ _ _ _ [(0, _), (1, _), (5, _), (6, _), (7, _), (8, _), (9, _)] _ _ _ _
           simp (disch := omega) only [↓sxA, ↓wk_store, sxB, sxP, simprocAttr, q_slBoth, Int.toNat_natCast, ei, extract_bs, one, bs_app]
           refine ⟨cat _ c1W, _, rfl, ⟨i + 1, out ++ [c], by simp, by omega, F, grw _ _ c1W (Nat.le_refl _), app happ⟩, ?_⟩
           show ((s.size : Int) - ((i : Int) + 1)).toNat < ((s.size : Int) - i).toNat
           omega
         ·obtain ⟨j, hj⟩ : ∃ j : Nat, nmI (bs (List.take (k - (i + 1)) (List.drop (i + 1) s.data.toList))) ns 0 = (j : Int) := ⟨(nmI (bs (List.take (k - (i + 1)) (List.drop (i + 1) s.data.toList))) ns 0).toNat, by omega⟩
          have hjl : j < cs.length := by omega
          have hvs := valF_some (cs := cs) hj
          obtain ⟨bb, vv, o1, o2, o3, o4⟩ := hA1.2 j hjl
          obtain ⟨p1, p2, p3, p4, p5⟩ := o4 _ (Frm.refl _)
          rw [hj]
          simp (disch := omega) only [↓sxA, ↓wk_store, sxB, sxP, simprocAttr]
          refine loop_rule [0, 1, 5, 6, 7, 8, 9] (fun vs s3 => s3 = s2 ∧ ∃ e : Nat, vs = [.string s, lv, .string (bs out), .int .i64 (i : Nat), .int .i64 (k : Nat), .int .i64 (j : Nat), .int .i64 (e : Nat)] ∧ k ≤ e ∧ e ≤ s.size ∧ ∀ m, k ≤ m → m < e → ∀ c, s.data.toList[m]? = some c → no62 c = true) (fun vs _ => match lget vs 6 with
           | .int _ k => ((s.size : Int) - k).toNat
           | _ => 0) ?_ ?_ ?_
          ·rfl
          ·refine ⟨_, rfl, ⟨rfl, k, rfl, by omega, by omega, fun m h1 h2 => by omega⟩, ?_⟩
           show ((s.size : Int) - (k : Int)).toNat < 100000
           omega
          ·rintro vs s3 ⟨rfl, e, rfl, e1, e2, e3⟩
           show sx _ _ _ _ _ [(0, _), (1, _), (5, _), (6, _), (7, _), (8, _), (9, _)] _ _ _ _
           by_cases hel : e < s.size
           ·obtain ⟨b, hbc, hgb, hbb⟩ := byte_at s e hel
            by_cases hb62 : b = 62
            ·have b1 : ((b.toNat : Int) = 62) = True := eq_true (by rw [hb62]; rfl)
             have hke : k + 1 ≤ e := by
              rcases Nat.lt_or_ge k e with h1 | h1
              ·exact h1
              ·have : e = k := by omega
               subst this
               rw [hd] at hbc
               cases hbc
               exact absurd hb62 hd62
             obtain ⟨tw2, dw2⟩ := tw_stop (p := no62) (L := s.data.toList) (k := e) (by omega) (fun x hx => by rw [hbc] at hx; cases hx; rw [hb62]; decide) (e - (k + 1)) (k + 1) (by omega) (fun m h1 h2 => e3 m (by omega) h2)
             have hit := fs_some (hc60 ▸ hc) (il_dol (val := valF ns cs) (by rw [dw', hd36]) tw hvs (dw2.trans (drop_at hbc)))
             rw [hit, tw2] at hk
             have ek : ((k : Int) + 1).toNat = k + 1 := by omega
             simp (disch := omega) only [q_indexStr, Int.toNat_natCast, hgb, hgd, b1, a2, q_slBoth, extract_bs, ek, ↓o1, ↓p1, ↓sxA, ↓wk_store, sxB, sxP, simprocAttr]
             refine kValueR _ _ o2 o3 p5 fun s4 F4 => ?_
             simp (disch := omega) only [↓sxA, ↓wk_store, sxB, sxP, simprocAttr, bs_app]
             have hol : (List.take (e - (k + 1)) (List.drop (k + 1) s.data.toList)).length ≤ 80000 := by rw [List.length_take, List.length_drop]; omega
             refine ⟨cat _ (vW j _ hol), _, rfl, ⟨e + 1, _, rfl, by omega, F.trans F4, grw _ _ (vW j _ hol) (by omega), by rw [List.append_assoc]; exact hk⟩, ?_⟩
             show ((s.size : Int) - ((e : Int) + 1)).toNat < ((s.size : Int) - i).toNat
             omega
            ·have b1 : ((b.toNat : Int) = 62) = False := eq_false fun e => hb62 (u8_eq (n := 62) e)
             simp (disch := omega) only [q_indexStr, Int.toNat_natCast, hgb, b1, ↓sxA, ↓wk_store, sxB, sxP, simprocAttr]
             refine ⟨_, rfl, ⟨e + 1, by simp, by omega, by omega, fun m h1 h2 c' hc' => ?_⟩, ?_⟩
             ·rcases Nat.lt_or_ge m e with h3 | h3
              ·exact e3 m h1 h3 c' hc'
              ·have : m = e := by omega
               subst this
               rw [hbc] at hc'
               cases hc'
               simp [no62, hb62]
             ·show ((s.size : Int) - ((e : Int) + 1)).toNat < ((s.size : Int) - e).toNat
              omega
           ·obtain ⟨tw2, dw2⟩ := tw_stop (p := no62) (L := s.data.toList) (k := e) (by omega) (fun x hx => by rw [byte_no s e (by omega)] at hx; cases hx) (e - (k + 1)) (k + 1) (by omega) (fun m h1 h2 => e3 m (by omega) h2)
            have happ := fs_none (hc60 ▸ hc) (il_open (val := valF ns cs) (by rw [dw', hd36]) (by rw [dw2]; exact List.drop_eq_nil_of_le (by omega)))
            rw [← hc60] at happ
            simp (disch := omega) only [↓sxA, ↓wk_store, sxB, sxP, simprocAttr, q_slBoth, Int.toNat_natCast, ei, extract_bs, one, bs_app]
            refine ⟨cat _ c1W, _, rfl, ⟨i + 1, out ++ [c], by simp, by omega, F, grw _ _ c1W (Nat.le_refl _), app happ⟩, ?_⟩
            show ((s.size : Int) - ((i : Int) + 1)).toNat < ((s.size : Int) - i).toNat
            omega
        ·have a2 : ((d.toNat : Int) = 36) = False := eq_false fun e => hd36 (u8_eq (n := 36) e)
         have happ := fs_none (hc60 ▸ hc) (il_oth (val := valF ns cs) dw' hd62 hd36)
         rw [← hc60] at happ
         simp (disch := omega) only [q_indexStr, Int.toNat_natCast, hgd, hg, e60, a1, a2, q_slBoth, extract_bs, ei, ↓sxA, ↓wk_store, sxB, sxP, simprocAttr]
         refine loop_rule [0, 1, 5, 6, 7, 8, 9] (fun vs s3 => s3 = s2 ∧ vs = [.string s, lv, .string (bs out), .int .i64 (i : Nat), .int .i64 (k : Nat), .int .i64 (-1), .int .i64 (k : Nat)]) (fun _ _ => 0) ?_ ?_ ?_
         ·rfl
         ·exact ⟨_, rfl, ⟨rfl, rfl⟩, by show 0 < 100000; omega⟩
         ·rintro vs s3 ⟨rfl, rfl⟩
          show sx _ _ _ _ _ [(0, _), (1, _), (5, _), (6, _), (7, _), (8, _), (9, _)] _ _ _ _
          simp (disch := omega) only [↓sxA, ↓wk_store, sxB, sxP, simprocAttr, q_slBoth, Int.toNat_natCast, ei, extract_bs, one, bs_app]
          refine ⟨cat _ c1W, _, rfl, ⟨i + 1, out ++ [c], by simp, by omega, F, grw _ _ c1W (Nat.le_refl _), app happ⟩, ?_⟩
          show ((s.size : Int) - ((i : Int) + 1)).toNat < ((s.size : Int) - i).toNat
          omega
      ·have e60 : ((c.toNat : Int) = 60) = False := eq_false fun e => hc60 (u8_eq (n := 60) e)
       have happ := fs_not (val := valF ns cs) hc hc60
       simp (disch := omega) only [q_indexStr, Int.toNat_natCast, hgd, hg, e60, q_slBoth, extract_bs, ei, ↓sxA, ↓wk_store, sxB, sxP, simprocAttr]
       refine loop_rule [0, 1, 5, 6, 7, 8, 9] (fun vs s3 => s3 = s2 ∧ vs = [.string s, lv, .string (bs out), .int .i64 (i : Nat), .int .i64 (k : Nat), .int .i64 (-1), .int .i64 (k : Nat)]) (fun _ _ => 0) ?_ ?_ ?_
       ·rfl
       ·exact ⟨_, rfl, ⟨rfl, rfl⟩, by show 0 < 100000; omega⟩
       ·rintro vs s3 ⟨rfl, rfl⟩
        show sx _ _ _ _ _ [(0, _), (1, _), (5, _), (6, _), (7, _), (8, _), (9, _)] _ _ _ _
        simp (disch := omega) only [↓sxA, ↓wk_store, sxB, sxP, simprocAttr, q_slBoth, Int.toNat_natCast, ei, extract_bs, one, bs_app]
        refine ⟨cat _ c1W, _, rfl, ⟨i + 1, out ++ [c], by simp, by omega, F, grw _ _ c1W (Nat.le_refl _), app happ⟩, ?_⟩
        show ((s.size : Int) - ((i : Int) + 1)).toNat < ((s.size : Int) - i).toNat
        omega
     ·by_cases hc60 : c = 60
      ·have e60 : ((c.toNat : Int) = 60) = True := eq_true (by rw [hc60]; rfl)
       have happ := fs_none (hc60 ▸ hc) (il_end (val := valF ns cs) (by rw [dw]; exact List.drop_eq_nil_of_le (by omega)))
       rw [← hc60] at happ
       simp (disch := omega) only [q_indexStr, Int.toNat_natCast, hg, e60, q_slBoth, extract_bs, ei, ↓sxA, ↓wk_store, sxB, sxP, simprocAttr]
       refine loop_rule [0, 1, 5, 6, 7, 8, 9] (fun vs s3 => s3 = s2 ∧ vs = [.string s, lv, .string (bs out), .int .i64 (i : Nat), .int .i64 (k : Nat), .int .i64 (-1), .int .i64 (k : Nat)]) (fun _ _ => 0) ?_ ?_ ?_
       ·rfl
       ·exact ⟨_, rfl, ⟨rfl, rfl⟩, by show 0 < 100000; omega⟩
       ·rintro vs s3 ⟨rfl, rfl⟩
        show sx _ _ _ _ _ [(0, _), (1, _), (5, _), (6, _), (7, _), (8, _), (9, _)] _ _ _ _
        simp (disch := omega) only [↓sxA, ↓wk_store, sxB, sxP, simprocAttr, q_slBoth, Int.toNat_natCast, ei, extract_bs, one, bs_app]
        refine ⟨cat _ c1W, _, rfl, ⟨i + 1, out ++ [c], by simp, by omega, F, grw _ _ c1W (Nat.le_refl _), app happ⟩, ?_⟩
        show ((s.size : Int) - ((i : Int) + 1)).toNat < ((s.size : Int) - i).toNat
        omega
      ·have e60 : ((c.toNat : Int) = 60) = False := eq_false fun e => hc60 (u8_eq (n := 60) e)
       have happ := fs_not (val := valF ns cs) hc hc60
       simp (disch := omega) only [q_indexStr, Int.toNat_natCast, hg, e60, q_slBoth, extract_bs, ei, ↓sxA, ↓wk_store, sxB, sxP, simprocAttr]
       refine loop_rule [0, 1, 5, 6, 7, 8, 9] (fun vs s3 => s3 = s2 ∧ vs = [.string s, lv, .string (bs out), .int .i64 (i : Nat), .int .i64 (k : Nat), .int .i64 (-1), .int .i64 (k : Nat)]) (fun _ _ => 0) ?_ ?_ ?_
       ·rfl
       ·exact ⟨_, rfl, ⟨rfl, rfl⟩, by show 0 < 100000; omega⟩
       ·rintro vs s3 ⟨rfl, rfl⟩
        show sx _ _ _ _ _ [(0, _), (1, _), (5, _), (6, _), (7, _), (8, _), (9, _)] _ _ _ _
        simp (disch := omega) only [↓sxA, ↓wk_store, sxB, sxP, simprocAttr, q_slBoth, Int.toNat_natCast, ei, extract_bs, one, bs_app]
        refine ⟨cat _ c1W, _, rfl, ⟨i + 1, out ++ [c], by simp, by omega, F, grw _ _ c1W (Nat.le_refl _), app happ⟩, ?_⟩
        show ((s.size : Int) - ((i : Int) + 1)).toNat < ((s.size : Int) - i).toNat
        omega
end
end Go.Proofs.YtjomiadmminhfaaGreatDoor
end
section
set_option linter.unusedSimpArgs false
set_option linter.unusedVariables false
set_option maxRecDepth 10000
set_option linter.unusedVariables false
set_option maxRecDepth 10000
namespace Go.Proofs.YtjomiadmminhfaaGreatDoor
open Go.RowKit

theorem bld_writeS (B b : Nat) (bs : List Value) (s : ByteArray) (w : World) (h : Lib.IsBuilder 50 5 B b bs w) (hlen : bs.length + s.size ≤ 140737488355328) (hBw : B ≤ w.heap.size) :
  Calls Tryz.prog 26 #[.pointer (some ⟨b, 0, none⟩), .string s] w fun e w' => e = .returned (.tuple #[.int .i64 s.size, .nilIface]) ∧ (Lib.BuilderAt 50 5 B b (.pointer (some ⟨b, 0, none⟩)) (bs ++ Lib.strCells s) w' ∧ Below B w w') := Any.Builder_WriteString { Tryz.lays159 with } Tryz.Builder_Extra_159 B b bs s w h hlen hBw
theorem bldAt_below {T e : TypeId} {B b : Nat} {p : Value} {bs : List Value} {w w' : World} (h : Lib.BuilderAt T e B b p bs w) (hb : Below w.heap.size w w') : Lib.BuilderAt T e B b p bs w' := by
 obtain ⟨h1, v, h2, ⟨h3, h4⟩, h5⟩ := h
 have at' : ∀ k o, w.heap[k]? = some o → w'.heap[k]? = some o := fun k o hk => by
  rw [hb.block k (Array.getElem?_eq_some_iff.1 hk).1]
  exact hk
 refine ⟨h1, v, at' _ _ h2, ⟨h3, ?_⟩, h5⟩
 rcases h4 with h4 | ⟨g, cap, cur, q1, q2, q3, q4⟩
 ·exact .inl h4
 ·exact .inr ⟨g, cap, cur, q1, q2, at' _ _ q3, q4⟩
theorem isBld_below {T e : TypeId} {B b : Nat} {bs : List Value} {w w' : World} (h : Lib.IsBuilder T e B b bs w) (hb : Below w.heap.size w w') : Lib.IsBuilder T e B b bs w' :=
 h.elim (fun x => .inl (bldAt_below x hb)) (fun x => .inr (bldAt_below x hb))
theorem below_down {B C : Nat} {w w' : World} (h : Below C w w') (hb : B ≤ C) : Below B w w' := ⟨h.os, h.tape, h.output, h.size, fun k hk => h.block k (Nat.lt_of_lt_of_le hk hb)⟩

/-! ### in plain words -/
theorem fillL_pre (val : List UInt8 → Option (List UInt8 → List UInt8)) : ∀ (a b : List UInt8), (60 : UInt8) ∉ a → fillL val (a ++ b) = a ++ fillL val b
 | [], _, _ => rfl
 | c :: a, b, h => by
  simp only [List.mem_cons, not_or] at h
  rw [List.cons_append, fillL, if_neg (fun e => h.1 e.symm), fillL_pre val a b h.2]
  rfl
theorem no60_of {c : UInt8} {l : List UInt8} (h : l.takeWhile (fun x => !(x == c)) = l) : c ∉ l := fun hc => by
 have := tw_all (p := fun x => !(x == c)) (l := l) (x := c) (by rw [h]; exact hc)
 simp at this
theorem fill_item {val : List UInt8 → Option (List UInt8 → List UInt8)} {r : List UInt8} : ((itQ val (60 :: r)).2 = 0 ∧ fillL val (60 :: r) = 60 :: fillL val r) ∨
  (0 < (itQ val (60 :: r)).2 ∧ (itQ val (60 :: r)).2 ≤ r.length + 1 ∧ fillL val (60 :: r) = (itQ val (60 :: r)).1 ++ fillL val ((60 :: r).drop (itQ val (60 :: r)).2)) := by
 have hq : itQ val (60 :: r) = match itemL val r with
   | some (v, rest) => (v, r.length + 1 - rest.length)
   | none => ([], 0) := by
  unfold itQ
  rw [item_same]
  rfl
 rw [hq]
 cases hi : itemL val r with
 | none =>
  refine .inl ⟨rfl, ?_⟩
  rw [fillL, if_pos rfl]
  split
  ·rename_i h; rw [hi] at h; cases h
  ·rfl
 | some x =>
  obtain ⟨v, rest⟩ := x
  have hl := itemL_len hi
  refine .inr ⟨?_, ?_, ?_⟩
  ·show 0 < r.length + 1 - rest.length
   omega
  ·show r.length + 1 - rest.length ≤ _
   omega
  ·show _ = v ++ fillL val ((60 :: r).drop (r.length + 1 - rest.length))
   have hs : (60 :: r).drop (r.length + 1 - rest.length) = rest := by
    have hi' := hi
    rw [← item_same] at hi'
    unfold itemP at hi'
    have hr : r = r.takeWhile no62 ++ r.dropWhile no62 := (List.takeWhile_append_dropWhile).symm
    cases hd : r.dropWhile no62 with
    | nil => rw [hd] at hi'; cases hi'
    | cons y r' =>
     rw [hd] at hi' hr
     have er : r' = rest := by
      simp only at hi'
      by_cases hq : ((r.takeWhile no62).takeWhile no36).all sml = true
      ·rw [if_pos hq] at hi'
       simp only [Option.map_eq_some_iff, Prod.mk.injEq] at hi'
       obtain ⟨f, _, _, e⟩ := hi'
       exact e
      ·rw [if_neg hq] at hi'
       cases hi'
     subst er
     generalize r.takeWhile no62 = a at hr
     subst hr
     have e1 : (a ++ y :: r').length + 1 - r'.length = (60 :: (a ++ [y])).length := by simp; omega
     have e2 : (60 : UInt8) :: (a ++ y :: r') = (60 :: (a ++ [y])) ++ r' := by simp
     rw [e1, e2, List.drop_left]
   rw [hs, fillL, if_pos rfl]
   split
   ·rename_i h; rw [hi] at h; cases h; rfl
   ·rename_i h; rw [hi] at h; cases h

theorem ib_cut (R : List UInt8) : (Lib.indexByte R 60 = -1 ∧ (60 : UInt8) ∉ R) ∨ ∃ (o : Nat) (a r : List UInt8), Lib.indexByte R 60 = (o : Int) ∧ R = a ++ 60 :: r ∧ a.length = o ∧ (60 : UInt8) ∉ a := by
 rcases ib_split 60 R with ⟨i1, i2, i3⟩ | ⟨o, i1, i2, i3, i4⟩
 ·exact .inl ⟨i1, no60_of i2⟩
 ·refine .inr ⟨o, R.take o, R.drop (o + 1), i1, ?_, by rw [List.length_take]; omega, fun h => ?_⟩
  ·have h1 : R = R.takeWhile (fun x => !(x == (60 : UInt8))) ++ R.dropWhile (fun x => !(x == (60 : UInt8))) := (List.takeWhile_append_dropWhile).symm
   rw [i3, i4] at h1
   exact h1
  ·rw [← i3] at h
   have := tw_all h
   simp at this
set_option maxHeartbeats 2000000 in
set_option maxRecDepth 100000 in
theorem fill_walk (s : ByteArray) (x : Value) (w : World) (hs : s.size ≤ 80000) {val : List UInt8 → Option (List UInt8 → List UInt8)} {M : Nat} (hV : ∀ L, (itQ val L).1.length ≤ M + L.length) (hMs : M ≤ 1000000000)
  (hit : ∀ (L : ByteArray) (w1 : World), L.size ≤ 80000 → L.data.toList[0]? = some 60 → Below w.heap.size w w1 → Calls Tryz.prog 27 #[.string L, x] w1 fun e w2 => e = .returned (itV (itQ val L.data.toList)) ∧ Below w1.heap.size w1 w2) :
  Calls Tryz.prog 11 #[.string s, x] w fun e w' => e = .returned (.string (bs (fillL val s.data.toList))) ∧ Below w.heap.size w w' := by
 have HIT := Any.hidU hit
 have HV := Any.hidU hV
 clear hit hV
 have h0 : Lib.IsBuilder 50 5 w.heap.size w.heap.size [] (w.alloc (.cells #[.pointer none, .slice none 0 0] 50)) := Lib.fresh_isBuilder 50 5 w
 have b0 : Below w.heap.size w (w.alloc (.cells #[.pointer none, .slice none 0 0] 50)) := (Below.refl _ w).alloc (Nat.le_refl _) _
 obtain ⟨W, hW⟩ : ∃ W, W = M + 80001 := ⟨_, rfl⟩
 go_enter Tryz.func11, Tryz.ntmps11
 go_wp2
 go_loopw [0] (fun v wr => ∃ (R out : List UInt8), v = .string (bs R) ∧ R.length ≤ s.size ∧ Hid (out.length ≤ (s.size - R.length) * W) ∧ Hid (out ++ fillL val R = fillL val s.data.toList) ∧ Hid (Lib.IsBuilder 50 5 w.heap.size w.heap.size (Lib.byteCells out) wr) ∧ Hid (Below w.heap.size w wr)) (fun v _ => match v with
  | .string t => t.size
  | _ => 0)
 case atStart => exact ⟨s.data.toList, [], by rw [bs_of], by rw [size_list]; exact Nat.le_refl _, Any.hidU (Nat.zero_le _), Any.hidU rfl, Any.hidU h0, Any.hidU b0⟩
 case round =>
  obtain ⟨R, out, rfl, hR, HO, HK, HB, HW⟩ := hrel
  have hBw := HW.out.size
  have hO := HO.out
  have hmul : (s.size - R.length) * W ≤ 80000 * W := Nat.mul_le_mul_right W (by omega)
  have hout : out.length ≤ 90000000000000 := by omega
  have hcat : out.length + (bs R).size ≤ 9223372036854775807 := by rw [bs_size]; omega
  have e60 : Lib.indexByte (bs R).data.toList (60 : Int).toNat.toUInt8 = Lib.indexByte R 60 := by rw [bs_list]; rfl
  rcases ib_cut R with ⟨i1, i2⟩ | ⟨o, a, r, i1, i2, i3, i4⟩
  ·rw [i1] at e60
   have HF : Hid (fillL val R = R) := Any.hidU (fillL_no val R i2)
   clear i1 i2
   go_wp2_with fail
   ·refine (Tryz.strings_IndexByte (bs R) 60 wr).mono ?_
    rintro e w2 ⟨rfl, rfl⟩
    rw [e60]
    go_wp2_with (go_at_call 28; refine (Tryz.Builder_String_any w.heap.size w.heap.size out _ HB.out hBw).mono ?_)
    rintro e w3 ⟨rfl, hb2⟩
    have Hb2 := Any.hidU hb2
    clear hb2
    go_wp2
    go_ret
    refine ⟨?_, HW.out.trans Hb2.out⟩
    rw [← HK.out, HF.out]
    exact congrArg (fun z => Ending.returned (Value.string z)) (bs_app out R)
   ·refine (Tryz.Builder_String_any w.heap.size w.heap.size out _ HB.out hBw).mono ?_
    rintro e w3 ⟨rfl, hb2⟩
    have Hb2 := Any.hidU hb2
    clear hb2
    go_wp2
    go_ret
    refine ⟨?_, HW.out.trans Hb2.out⟩
    rw [← HK.out, HF.out]
    exact congrArg (fun z => Ending.returned (Value.string z)) (bs_app out R)
  ·rw [i1] at e60
   have hRs : (bs R).size = R.length := bs_size R
   have hrl : R.length = o + 1 + r.length := by rw [i2, List.length_append, List.length_cons, i3]; omega
   have hol : o < (bs R).size := by omega
   have x1 : Hid ((bs R).extract 0 o = bs a) := Any.hidU (by
    rw [extract_bs, bs_list, i2, List.drop_zero, Nat.sub_zero, ← i3, List.take_left])
   have x2 : Hid ((bs R).extract o (o + 1 + r.length) = bs (60 :: r)) := Any.hidU (by
    rw [← hrl, extract_bs, bs_list, List.take_of_length_le (by rw [List.length_drop]; exact Nat.le_refl _), i2, ← i3, List.drop_left])
   have HF : Hid (fillL val R = a ++ fillL val (60 :: r)) := Any.hidU (by rw [i2, fillL_pre _ _ _ i4])
   have HI := Any.hidU (fill_item (val := val) (r := r))
   have HL := Any.hidU (HV.out (60 :: r))
   clear i2 i4
   go_wp2_with fail
   ·refine (Tryz.strings_IndexByte (bs R) 60 wr).mono ?_
    rintro e w2 ⟨rfl, rfl⟩
    rw [e60]
    go_wp2_with fail
    refine (bld_writeS w.heap.size w.heap.size _ ((bs R).extract 0 o) w2 HB.out (by rw [x1.out, bs_size, Lib.byteCells_length]; omega) hBw).mono ?_
    rintro e w3 ⟨rfl, h2, hb2⟩
    have hcell : Lib.byteCells out ++ Lib.strCells ((bs R).extract 0 o) = Lib.byteCells (out ++ a) := by
     rw [x1.out, Lib.byteCells_append]
     congr 1
    rw [hcell] at h2
    have H2 := Any.hidU (Or.inr h2 : Lib.IsBuilder 50 5 w.heap.size w.heap.size _ w3)
    have Hb2 := Any.hidU (HW.out.trans hb2)
    clear h2 hb2 hcell
    have hBw3 := Hb2.out.size
    go_wp2_with fail
    rw [x2.out]
    refine (HIT.out (bs (60 :: r)) w3 (by rw [bs_size, List.length_cons]; omega) (by rw [bs_list]; rfl) Hb2.out).mono ?_
    rintro e w4 ⟨rfl, hb4⟩
    rw [bs_list]
    have H4 := Any.hidU (isBld_below H2.out hb4)
    have Hb4 := Any.hidU (Hb2.out.trans (below_down hb4 hBw3))
    clear hb4
    have hBw4 := Hb4.out.size
    have HI' := HI.out
    have HL' := HL.out
    unfold itV
    generalize itQ val (60 :: r) = q at HI' HL' ⊢
    obtain ⟨v, m⟩ := q
    simp only at HI' HL' ⊢
    rw [List.length_cons] at HL'
    rcases HI' with ⟨rfl, hf⟩ | ⟨h1, h2, hf⟩
    ·have Hf := Any.hidU hf
     clear hf
     go_wp2_with fail
     refine (bld_writeS w.heap.size w.heap.size _ ⟨#[60]⟩ w4 H4.out (by rw [Lib.byteCells_length, List.length_append]; show _ + 1 ≤ _; omega) hBw4).mono ?_
     rintro e w5 ⟨rfl, h5, hb5⟩
     have hcell : Lib.byteCells (out ++ a) ++ Lib.strCells ⟨#[60]⟩ = Lib.byteCells (out ++ a ++ [60]) := by
      rw [Lib.byteCells_append (out ++ a)]
      rfl
     rw [hcell] at h5
     have H5 := Any.hidU (Or.inr h5 : Lib.IsBuilder 50 5 w.heap.size w.heap.size _ w5)
     have Hb5 := Any.hidU (Hb4.out.trans hb5)
     clear h5 hb5 hcell
     have hg := Any.hidU (grow_le (e := s.size - r.length) (b := o + 1) hO (by omega) (by omega))
     have hk := HK.out
     rw [HF.out, Hf.out] at hk
     have Hk := Any.hidU hk
     clear hk
     have hz : (bs (60 :: r)).size = r.length + 1 := by rw [bs_size, List.length_cons]
     have hx : (bs (60 :: r)).extract 1 (r.length + 1) = bs r := by
      rw [extract_bs, bs_list, Nat.add_sub_cancel, List.drop_succ_cons, List.drop_zero, List.take_length]
     go_wp2
     refine ⟨⟨r, out ++ a ++ [60], ?_, by omega, ?_, ?_, H5, Hb5⟩, ?_⟩
     ·first | rfl | exact congrArg Value.string hx | (rw [hz]; exact congrArg Value.string hx)
     ·refine Any.hidU ?_
      have := hg.out
      rw [List.length_append, List.length_append, i3, Nat.add_assoc]
      exact this
     ·refine Any.hidU ?_
      rw [← Hk.out]
      simp
     ·simp only [bs_size]
      omega
    ·have Hf := Any.hidU hf
     clear hf
     go_wp2_with fail
     refine (bld_writeS w.heap.size w.heap.size _ (bs v) w4 H4.out (by rw [Lib.byteCells_length, List.length_append, bs_size]; omega) hBw4).mono ?_
     rintro e w5 ⟨rfl, h5, hb5⟩
     have hcell : Lib.byteCells (out ++ a) ++ Lib.strCells (bs v) = Lib.byteCells (out ++ a ++ v) := by
      rw [Lib.byteCells_append (out ++ a)]
      rfl
     rw [hcell] at h5
     have H5 := Any.hidU (Or.inr h5 : Lib.IsBuilder 50 5 w.heap.size w.heap.size _ w5)
     have Hb5 := Any.hidU (Hb4.out.trans hb5)
     clear h5 hb5 hcell
     have hdl : ((60 :: r).drop m).length = r.length + 1 - m := by rw [List.length_drop, List.length_cons]
     have hg := Any.hidU (grow_le (e := s.size - (r.length + 1 - m)) (b := o + v.length) hO (by omega) (by omega))
     have hk := HK.out
     rw [HF.out, Hf.out] at hk
     have Hk := Any.hidU hk
     clear hk
     have hz : (bs (60 :: r)).size = r.length + 1 := by rw [bs_size, List.length_cons]
     have hx : (bs (60 :: r)).extract m (r.length + 1) = bs ((60 :: r).drop m) := by
      rw [extract_bs, bs_list, List.take_of_length_le (by rw [List.length_drop, List.length_cons]; exact Nat.le_refl _)]
     go_wp2
     refine ⟨⟨(60 :: r).drop m, out ++ a ++ v, ?_, by omega, ?_, ?_, H5, Hb5⟩, ?_⟩
     ·first | rfl | exact congrArg Value.string hx | (rw [hz]; exact congrArg Value.string hx)
     ·refine Any.hidU ?_
      have := hg.out
      rw [List.length_append, List.length_append, i3, Nat.add_assoc, hdl]
      exact this
     ·refine Any.hidU ?_
      rw [← Hk.out]
      simp
     ·simp only [bs_size, hdl]
      omega
   ·exfalso
    have hb : (!(bs R).toList.isEmpty) = false := by assumption
    rw [Lib.toList_data, bs_list] at hb
    have hn : R = [] := by simpa using hb
    rw [hn] at hrl
    simp only [List.length_nil] at hrl
    omega
end Go.Proofs.YtjomiadmminhfaaGreatDoor
end
