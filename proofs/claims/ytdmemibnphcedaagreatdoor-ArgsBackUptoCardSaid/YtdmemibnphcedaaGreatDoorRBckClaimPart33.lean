/-
  What goes along with an item: values, the rest of a line; the library's small functions over texts.
  What goes along with an item, by the program and by the chapter.
  What goes along with an item, by the chapter.
-/
import Derived.Test.YtdmemibnphcedaaGreatDoorRBckClaimPart27
import Derived.Test.YtdmemibnphcedaaGreatDoorRBckClaimPart32
import Derived.Test.YtdmemibnphcedaaGreatDoorRBckClaimPart22
import Derived.Laws.RangeString
import Derived.Laws.RangeAny
section
set_option linter.unusedSimpArgs false
set_option linter.unusedVariables false
set_option maxRecDepth 10000
set_option linter.unusedSectionVars false
namespace Go.Proofs.YtdmemibnphcedaaGreatDoor
open Go.Am

theorem okB_it (c : UInt8) : okB c = true ↔ c.toNat = 10 ∨ (32 ≤ c.toNat ∧ c.toNat ≤ 126) := by
 unfold okB prn
 simp only [Bool.or_eq_true, Bool.and_eq_true, decide_eq_true_eq]
def okT (s : ByteArray) : Bool := s.data.toList.all okB
def valOk (x : Mk) (s : ByteArray) : Bool := okT s && numOk x s
/-- what can stand as the rest of a line -/
def restV (l : List UInt8) : Bool := decide (l ≠ []) && l.all prn && decide (trimE l = l) && decide (l.head? ≠ some 32) && decide (l.head? ≠ some 61)

theorem dropW_eq {p : UInt8 → Bool} : ∀ {l : List UInt8}, l.dropWhile p = l ↔ ∀ c, l.head? = some c → p c = false
 | [] => by simp
 | c :: r => by
  constructor
  ·intro h d hd
   cases hd
   cases hp : p c with
   | false => rfl
   | true =>
    exfalso
    rw [List.dropWhile_cons_of_pos hp] at h
    have := congrArg List.length h
    have h2 := (List.dropWhile_sublist (l := r) p).length_le
    rw [List.length_cons] at this
    omega
  ·intro h
   exact List.dropWhile_cons_of_neg (by rw [h c rfl]; decide)
theorem trimV_eq (l : List UInt8) : trimV (bs l) ⟨#[32]⟩ = bs l ↔ trimE l = l ∧ l.head? ≠ some 32 := by
 have e1 : trimV (bs l) ⟨#[32]⟩ = bs ((trimE l).dropWhile (· == 32)) := by
  show bs (Lib.trimS (bs l).data.toList [32]) = _
  rw [bs_list, Lib.trimS_one]
  rfl
 rw [e1]
 constructor
 ·intro h
  have h := bs_inj h
  have h1 := (List.dropWhile_sublist (l := trimE l) (· == 32)).length_le
  have h2 := trimE_le l
  rw [h] at h1
  have h3 : trimE l = l := by
   unfold trimE at h1 h2 ⊢
   rw [List.length_reverse] at h1 h2
   have := (List.dropWhile_sublist (l := l.reverse) (· == 32)).eq_of_length (by rw [List.length_reverse]; omega)
   rw [this, List.reverse_reverse]
  refine ⟨h3, fun hh => ?_⟩
  rw [h3] at h
  have := dropW_eq.1 h 32 hh
  exact absurd this (by decide)
 ·rintro ⟨h1, h2⟩
  rw [h1]
  congr 1
  rw [dropW_eq]
  intro c hc
  cases hh : (c == 32) with
  | false => rfl
  | true => exact absurd (by rw [hc, eq_of_beq hh]) h2

theorem restV_eq {l : List UInt8} (ho : l.all okB = true) (h0 : l ≠ []) : restV l = (decide (trimV (bs l) ⟨#[32]⟩ = bs l) && decide (l.head? ≠ some 61) && !decide ((10 : UInt8) ∈ l)) := by
 have hp : l.all prn = !decide ((10 : UInt8) ∈ l) := by
  rw [List.all_eq_true] at ho
  cases h : decide ((10 : UInt8) ∈ l) with
  | true =>
   have h := of_decide_eq_true h
   rw [Bool.not_true, List.all_eq_false]
   exact ⟨10, h, by decide⟩
  | false =>
   have h := of_decide_eq_false h
   rw [Bool.not_false, List.all_eq_true]
   exact fun c hc => okB_prn (ho c hc) fun e => h (e ▸ hc)
 unfold restV
 rw [hp, decide_eq_true h0, decide_eq_decide.2 (trimV_eq l), Bool.decide_and]
 cases decide ((10 : UInt8) ∈ l) <;> cases decide (trimE l = l) <;> cases decide (l.head? ≠ some 32) <;> cases decide (l.head? ≠ some 61) <;> rfl

attribute [local irreducible] callO wopK ropK popK opK grpsE listE sx Runs

section
variable {st : St} {K : Value → St → Prop}

theorem kTrimB (n : Nat) (s : ByteArray) (hs : s.size ≤ 4294967280) (h : K (.string (trimV s ⟨#[32]⟩)) st) : callK (callO T0 orc fns 100000 n) 47 [.string s, .string ⟨#[32]⟩] st K := by
 rw [callO_none (by rfl)]
 have e : orc 47 [.string s, .string ⟨#[32]⟩] st = .ret (.string (trimV s ⟨#[32]⟩), st) := by
  rw [orc_eq (by decide)]
  have ha : asciiB ⟨#[32]⟩ = true := by decide
  have hc : ByteArray.size ⟨#[32]⟩ < 4294967281 := by decide
  simp [orc1, hs, ha, hc]
 exact (propext (callK_ret (K := K) e)).mpr h

theorem kHasLF (n : Nat) (s : ByteArray) (hs : s.size ≤ 90000) (hm : hasMax st = true) (h : K (.bool (decide ((10 : UInt8) ∈ s.data.toList))) st) : callK (callO T0 orc fns 100000 (n + 1)) 89 [.string s, .string ⟨#[10]⟩] st K := by
 refine fn_runs (fn := g89) ?_ ?_ ?_
 ·rfl
 ·rfl
 unfold g89
 simp (disch := omega) only [↓sxA, ↓wk_store, sxB, sxP, simprocAttr]
 refine kIndex n s ⟨#[10]⟩ (by omega) hm ?_
 have e : Lib.index s.data.toList (ByteArray.data ⟨#[10]⟩).toList = Lib.indexByte s.data.toList 10 := Lib.index_one _ _
 rw [e]
 by_cases hh : (10 : UInt8) ∈ s.data.toList
 ·rw [decide_eq_true hh] at h
  obtain ⟨p, r, hpr, hp⟩ := cut_at hh
  have : Lib.indexByte s.data.toList 10 = (p.length : Int) := by rw [hpr]; exact indexByte_hit 10 r p hp
  rw [this]
  simp (disch := omega) only [↓sxA, ↓wk_store, sxB, sxP, simprocAttr]
  exact h
 ·rw [decide_eq_false hh] at h
  rw [indexByte_miss 10 _ hh]
  simp (disch := omega) only [↓sxA, ↓wk_store, sxB, sxP, simprocAttr]
  exact h

theorem kChr (n : Nat) (r : Int) (h : ∀ st', Frm st st' → K (.bool (decide (r ≠ 10 ∧ (r < 32 ∨ 126 < r)))) st') : callK (callO T0 orc fns 100000 (n + 1)) 88 [.int .i32 r] st K := by
 refine fn_runs (fn := g88) ?_ ?_ ?_
 ·rfl
 ·rfl
 unfold g88
 by_cases c1 : r = 10
 ·have e1 : (r = 10) = True := eq_true c1
  have := h st (Frm.refl _)
  rw [decide_eq_false (fun hh => hh.1 c1)] at this
  simp (disch := omega) only [↓sxA, ↓wk_store, sxB, sxP, simprocAttr, e1]
  exact this
 ·have e1 : (r = 10) = False := eq_false c1
  by_cases c2 : r < 32
  ·have := h st (Frm.refl _)
   rw [decide_eq_true ⟨c1, .inl c2⟩] at this
   simp (disch := omega) only [↓sxA, ↓wk_store, sxB, sxP, simprocAttr, e1]
   exact this
  ·by_cases c3 : 126 < r
   ·have := h st (Frm.refl _)
    rw [decide_eq_true ⟨c1, .inr c3⟩] at this
    simp (disch := omega) only [↓sxA, ↓wk_store, sxB, sxP, simprocAttr, e1]
    exact this
   ·have := h st (Frm.refl _)
    rw [decide_eq_false (fun hh => by rcases hh.2 with q | q; exact c2 q; exact c3 q)] at this
    simp (disch := omega) only [↓sxA, ↓wk_store, sxB, sxP, simprocAttr, e1]
    exact this

theorem kIdxF (n : Nat) (s : ByteArray) (hs : s.size ≤ 90000) (h1 : okT s = false → ∀ (r : Int) st', 0 ≤ r → r ≤ 9000000000000000000 → Frm st st' → K (.int .i64 r) st') (h2 : okT s = true → ∀ st', Frm st st' → K (.int .i64 (-1)) st') :
  callK (callO T0 orc fns 100000 (n + 2)) 143 [.string s, .func (.func 88) #[] #[], .bool true] st K := by
 refine fn_runs (fn := g143) ?_ ?_ ?_
 ·rfl
 ·rfl
 unfold g143
 have hsz := size_list s
 simp (disch := omega) only [↓sxA, ↓wk_store, sxB, sxP, simprocAttr, wk_rangeS]
 refine loop_rule [0, 1, 2, 10] (fun vs s' => ∃ j : Nat, vs = [.string s, .func (.func 88) #[] #[], .bool true, .pointer (some ⟨st.next, 0, none⟩)] ∧ s'.get st.next = some (.strIter s j) ∧ j ≤ s.size ∧ (s.data.toList.take j).all okB = true ∧ st.next + 1 ≤ s'.next ∧ Frm st s') (fun _ s' => match s'.get st.next with
   | some (.strIter _ j) => s.size - j
   | _ => 0) ?_ ?_ ?_
 ·rfl
 ·refine ⟨_, rfl, ⟨0, rfl, get_new_same _ _, Nat.zero_le _, rfl, Nat.le_refl _, Frm.new _ _⟩, ?_⟩
  rw [get_new_same]
  show s.size - 0 < 100000
  omega
 ·rintro vs s' ⟨j, rfl, hit, hj, hok, hn, F⟩
  show sx _ _ _ _ _ [(0, _), (1, _), (2, _), (10, _)] _ _ _ _
  rw [hit]
  by_cases hjl : j < s.size
  ·obtain ⟨c, hc, hgd, hcb⟩ := byte_at s j hjl
   have hsj : s[j]'hjl = c := by
    have h2 : s.data.toList[j]? = some (s[j]'hjl) := List.getElem?_eq_getElem (by omega)
    rw [hc] at h2
    exact (Option.some.inj h2).symm
   simp (disch := omega) only [↓sxA, ↓wk_store, sxB, sxP, simprocAttr]
   refine next_chr hit hjl ?_
   obtain ⟨r, w, hd, ha, hb⟩ : ∃ r w : Nat, Utf8.decode s j = (r, w) ∧ (okB c = true → r = c.toNat ∧ w = 1 ∧ r ≤ 126) ∧ (okB c = false → r ≠ 10 ∧ (r < 32 ∨ 126 < r)) := by
    by_cases hlo : c.toNat < 128
    ·refine ⟨c.toNat, 1, by rw [decode_ascii s j hjl (by rw [hsj]; exact hlo), hsj], fun hh => ⟨rfl, rfl, ?_⟩, fun hh => ?_⟩
     ·rcases (okB_it c).1 hh with q | q <;> omega
     ·by_cases q : c.toNat ≠ 10 ∧ (c.toNat < 32 ∨ 126 < c.toNat)
      ·exact q
      ·have := (okB_it c).2 (by omega)
       rw [hh] at this
       cases this
    ·have := decode_high s j hjl (by rw [hsj]; omega)
     refine ⟨(Utf8.decode s j).1, (Utf8.decode s j).2, rfl, fun hh => ?_, fun _ => by omega⟩
     rcases (okB_it c).1 hh with q | q <;> omega
   rw [hd]
   dsimp only
   simp (disch := omega) only [↓sxA, ↓wk_store, sxB, sxP, simprocAttr]
   have Fp : Frm st (s'.put st.next (some (.strIter s (j + w)))) := F.put st.next (Nat.le_refl _) _
   have gp : (s'.put st.next (some (.strIter s (j + w)))).get st.next = some (.strIter s (j + w)) := get_put_same _ _ _
   have np : (s'.put st.next (some (.strIter s (j + w)))).next = s'.next := rfl
   refine kChr n (r : Int) fun s2 G => ?_
   have G1 := G.nx
   cases hk : okB c with
   | true =>
    obtain ⟨hr, rfl, _⟩ := ha hk
    have hdc : decide (((r : Nat) : Int) ≠ 10 ∧ (((r : Nat) : Int) < 32 ∨ 126 < ((r : Nat) : Int))) = false := by
     rw [decide_eq_false_iff_not]
     rcases (okB_it c).1 hk with q | q <;> omega
    rw [hdc]
    simp (disch := omega) only [↓sxA, ↓wk_store, sxB, sxP, simprocAttr, show (false ^^ (false == true)) = false from rfl]
    have g2 := (G.old st.next (by omega)).trans gp
    refine ⟨_, rfl, ⟨j + 1, rfl, g2, hjl, ?_, by omega, Fp.trans G⟩, ?_⟩
    ·rw [List.take_add_one, hc, List.all_append, hok]
     simp [hk]
    ·rw [g2]
     show s.size - (j + 1) < s.size - j
     omega
   | false =>
    have hdc : decide (((r : Nat) : Int) ≠ 10 ∧ (((r : Nat) : Int) < 32 ∨ 126 < ((r : Nat) : Int))) = true := by
     rw [decide_eq_true_iff]
     have := hb hk
     omega
    rw [hdc]
    simp (disch := omega) only [↓sxA, ↓wk_store, sxB, sxP, simprocAttr, show (false ^^ (true == true)) = true from rfl]
    refine h1 ?_ _ _ (by omega) (by omega) (Fp.trans G)
    unfold okT
    rw [List.all_eq_false]
    exact ⟨c, List.mem_of_getElem? hc, by rw [hk]; decide⟩
  ·simp (disch := omega) only [↓sxA, ↓wk_store, sxB, sxP, simprocAttr]
   refine next_chrEnd hit hjl ?_
   simp (disch := omega) only [↓sxA, ↓wk_store, sxB, sxP, simprocAttr]
   have he : j = s.data.toList.length := by omega
   rw [he, List.take_length] at hok
   exact h2 hok _ F

theorem kContF (n : Nat) (s : ByteArray) (hs : s.size ≤ 90000) (h : ∀ st', Frm st st' → K (.bool (!okT s)) st') :
  callK (callO T0 orc fns 100000 (n + 4)) 87 [.string s, .func (.func 88) #[] #[]] st K := by
 refine fn_runs (fn := g87) ?_ ?_ ?_
 ·rfl
 ·rfl
 unfold g87
 simp (disch := omega) only [↓sxA, ↓wk_store, sxB, sxP, simprocAttr]
 refine fn_runs (fn := g118) ?_ ?_ ?_
 ·rfl
 ·rfl
 unfold g118
 simp (disch := omega) only [↓sxA, ↓wk_store, sxB, sxP, simprocAttr]
 refine kIdxF n s hs (fun ho r s' r0 r1 F => ?_) (fun ho s' F => ?_)
 ·have := h s' F
  rw [ho] at this
  simp (disch := omega) only [↓sxA, ↓wk_store, sxB, sxP, simprocAttr]
  exact this
 ·have := h s' F
  rw [ho] at this
  simp (disch := omega) only [↓sxA, ↓wk_store, sxB, sxP, simprocAttr]
  exact this

/-- the program's test of a value -/
theorem kBad (n : Nat) {xb g : Nat} {ro : Bool} {nv : Value} {mk : Mk} (hb : st.get xb = some (.row (itCells nv mk) g ro)) (s : ByteArray) (hs : s.size ≤ 90000) (he : hasErr st = true) (h : ∀ st', Frm st st' → K (.bool (!valOk mk s)) st') :
  callK (callO T0 orc fns 100000 (n + 5)) 86 [.string s, .pointer (some ⟨xb, 0, none⟩)] st K := by
 refine fn_runs (fn := g86) ?_ ?_ ?_
 ·rfl
 ·rfl
 unfold g86
 have r4 : ∀ K : Value → Prop, ropK .load1 [.pointer (some ⟨xb, 0 + 4, none⟩)] st K = K (.bool mk.n) := fun K => by
  rw [rk_load1, hb]
  simp only [getK, rowK]
  exact nthK_at rfl K
 simp (disch := omega) only [↓sxA, ↓wk_store, sxB, sxP, simprocAttr]
 refine kNumber _ s (by omega) he ?_
 cases hn : numA s.data.toList with
 | none =>
  cases hmn : mk.n with
  | true =>
   have := h st (Frm.refl _)
   have e : valOk mk s = false := by unfold valOk numOk; rw [hn, hmn]; simp
   rw [e] at this
   rw [hmn] at r4
   simp (disch := omega) only [numVal, ↓sxA, ↓wk_store, sxB, sxP, simprocAttr, ↓r4]
   exact this
  | false =>
   have e : valOk mk s = okT s := by unfold valOk numOk; rw [hmn]; simp
   rw [hmn] at r4
   simp (disch := omega) only [numVal, ↓sxA, ↓wk_store, sxB, sxP, simprocAttr, ↓r4]
   refine kContF n s hs fun s' F => ?_
   simp (disch := omega) only [↓sxA, ↓wk_store, sxB, sxP, simprocAttr]
   rw [← e]
   exact h s' F
 | some v =>
  have e : valOk mk s = okT s := by unfold valOk numOk; rw [hn]; simp
  cases hmn : mk.n
  all_goals
   rw [hmn] at r4
   simp (disch := omega) only [numVal, ↓sxA, ↓wk_store, sxB, sxP, simprocAttr, ↓r4]
   refine kContF n s hs fun s' F => ?_
   simp (disch := omega) only [↓sxA, ↓wk_store, sxB, sxP, simprocAttr]
   rw [← e]
   exact h s' F
end
end Go.Proofs.YtdmemibnphcedaaGreatDoor
end
section
set_option linter.unusedSimpArgs false
set_option linter.unusedVariables false
set_option maxRecDepth 10000
set_option linter.unusedSectionVars false
namespace Go.Proofs.YtdmemibnphcedaaGreatDoor
open Go.Am

/-- an argument goes along with its item -/
def alongA (x : IM) (nm : ByteArray) (c : Cl) : Bool :=
 decide (nm = nm0 x) && (!x.mks.a || c.set) && c.vals.all (valOk x.mks) &&
 (if x.mks.s = true then c.vals.isEmpty else (c.set == !c.vals.isEmpty) && (x.mks.m || decide (c.vals.length ≤ 1)) && (!(x.mks.f && c.set) || restV (c.vals.headD .empty).data.toList))

attribute [local irreducible] callO wopK ropK popK opK grpsE listE sx Runs

section
variable {st : St} {K : Value → St → Prop} {v : Value} {xs : List ByteArray}

theorem kIdxBad (n : Nat) {xb g : Nat} {ro : Bool} {nv : Value} {mk : Mk} (hb : st.get xb = some (.row (itCells nv mk) g ro)) (hbn : xb < st.next) (hv : Cel st v (xs.map Value.string)) (hvn : ow v ≤ st.next) (hl : xs.length < 90000) (hs : ∀ x ∈ xs, x.size ≤ 90000) (h2e : 2 < st.next) (he : hasErr st = true)
  (h1 : xs.all (valOk mk) = false → ∀ (r : Int) st', 0 ≤ r → Frm st st' → K (.int .i64 r) st') (h2 : xs.all (valOk mk) = true → ∀ st', Frm st st' → K (.int .i64 (-1)) st') :
  callK (callO T0 orc fns 100000 (n + 6)) 101 [v, .func (.func 86) #[] #[.pointer (some ⟨xb, 0, none⟩)]] st K := by
 refine fn_runs (fn := g101) ?_ ?_ ?_
 ·rfl
 ·rfl
 unfold g101
 have hn := len_cel hv
 rw [List.length_map] at hn
 simp (disch := omega) only [↓sxA, ↓wk_store, sxB, sxP, simprocAttr, ↓hn]
 refine loop_rule [0, 1, 7, 8] (fun vs st' => ∃ j : Nat, vs = [v, .func (.func 86) #[] #[.pointer (some ⟨xb, 0, none⟩)], .int .i64 (xs.length : Nat), .int .i64 j] ∧ j ≤ xs.length ∧ Frm st st' ∧ ∀ i, i < j → valOk mk (xs.getD i .empty) = true) (fun vs _ => match lget vs 3 with
   | .int _ k => ((xs.length : Int) - k).toNat
   | _ => 0) ?_ ?_ ?_
 ·rfl
 ·refine ⟨_, rfl, ⟨0, rfl, Nat.zero_le _, Frm.refl _, fun i hi => by omega⟩, ?_⟩
  show ((xs.length : Int) - 0).toNat < 100000
  omega
 ·rintro vs st' ⟨j, rfl, j1, F, j2⟩
  show sx _ _ _ _ _ [(0, _), (1, _), (7, _), (8, _)] _ _ _ _
  by_cases hj : j < xs.length
  ·have hv1 : Cel st' v (xs.map Value.string) := hv.keep fun i hi => F.old i (by omega)
   have i1 := idx_cel hv1
   have ld := load_cel hv1
   rw [List.length_map] at i1 ld
   have e := getD_str xs j hj
   have hm : xs.getD j .empty ∈ xs := by rw [List.getD_eq_getElem?_getD, List.getElem?_eq_getElem hj, Option.getD_some]; exact List.getElem_mem hj
   simp (disch := omega) only [↓sxA, ↓wk_store, sxB, sxP, simprocAttr, ↓i1, ↓ld, Int.toNat_natCast, e]
   refine kBad n ((F.old xb hbn).trans hb) _ (hs _ hm) (F.err h2e he) fun s2 G => ?_
   cases hc : valOk mk (xs.getD j .empty) with
   | true =>
    simp (disch := omega) only [↓sxA, ↓wk_store, sxB, sxP, simprocAttr]
    refine ⟨_, rfl, ⟨j + 1, ?_, hj, F.trans G, fun i hi => ?_⟩, ?_⟩
    ·simp
    ·by_cases e : i = j
     ·rw [e]; exact hc
     ·exact j2 i (by omega)
    ·show ((xs.length : Int) - ((j : Int) + 1)).toNat < ((xs.length : Int) - j).toNat
     omega
   | false =>
    simp (disch := omega) only [↓sxA, ↓wk_store, sxB, sxP, simprocAttr]
    refine h1 ?_ _ _ (by omega) (F.trans G)
    rw [List.all_eq_false]
    exact ⟨_, hm, by rw [hc]; simp⟩
  ·simp (disch := omega) only [↓sxA, ↓wk_store, sxB, sxP, simprocAttr]
   refine h2 ?_ _ F
   rw [List.all_eq_true]
   intro y hm
   obtain ⟨i, hi, rfl⟩ := List.getElem_of_mem hm
   have := j2 i (by omega)
   rw [List.getD_eq_getElem?_getD, List.getElem?_eq_getElem hi, Option.getD_some] at this
   exact this

theorem kHasBad (n : Nat) {xb g : Nat} {ro : Bool} {nv : Value} {mk : Mk} (hb : st.get xb = some (.row (itCells nv mk) g ro)) (hbn : xb < st.next) (hv : Cel st v (xs.map Value.string)) (hvn : ow v ≤ st.next) (hl : xs.length < 90000) (hs : ∀ x ∈ xs, x.size ≤ 90000) (h2e : 2 < st.next) (he : hasErr st = true)
  (h : ∀ st', Frm st st' → K (.bool (!xs.all (valOk mk))) st') :
  callK (callO T0 orc fns 100000 (n + 7)) 66 [v, .func (.func 86) #[] #[.pointer (some ⟨xb, 0, none⟩)]] st K := by
 refine fn_runs (fn := g66) ?_ ?_ ?_
 ·rfl
 ·rfl
 unfold g66
 simp (disch := omega) only [↓sxA, ↓wk_store, sxB, sxP, simprocAttr]
 refine kIdxBad n hb hbn hv hvn hl hs h2e he (fun ha r s' hr F => ?_) (fun ha s' F => ?_)
 ·have := h s' F
  rw [ha] at this
  simp (disch := omega) only [↓sxA, ↓wk_store, sxB, sxP, simprocAttr]
  exact this
 ·have := h s' F
  rw [ha] at this
  simp (disch := omega) only [↓sxA, ↓wk_store, sxB, sxP, simprocAttr]
  exact this

set_option maxHeartbeats 4000000 in
theorem kRight (n : Nat) {nv vv : Value} {x : IM} {c : Cl} (nm : ByteArray) (hx : Cel st nv (x.names.map Value.string)) (hxo : oneCell nv = true) (hxn : ow nv ≤ st.next) (hx0 : x.names ≠ []) (hxl : x.names.length < 90000)
  (hv : Cel st vv (c.vals.map Value.string)) (hvo : oneCell vv = true) (hvn : ow vv ≤ st.next) (hl : c.vals.length < 90000) (hs : ∀ y ∈ c.vals, y.size ≤ 90000) (h2e : 2 < st.next) (he : hasErr st = true) (hm : hasMax st = true)
  (h : ∀ st', Frm st st' → K (.bool (alongA x nm c)) st') :
  callK (callO T0 orc fns 100000 (n + 8)) 51 [.agg (itCells nv x.mks).toArray, .agg #[.string nm, vv, .bool c.set]] st K := by
 refine fn_runs (fn := g51) ?_ ?_ ?_
 ·rfl
 ·rfl
 unfold g51
 obtain ⟨names, ⟨ma, mk', ms, mn, mm, mf⟩⟩ := x
 obtain ⟨vals, set, nmd⟩ := c
 obtain ⟨n0, nr, rfl⟩ := List.exists_cons_of_ne_nil hx0
 simp only at hx hxl hv hl hs h
 obtain ⟨s1, hs1⟩ : ∃ s1, s1 = (st.new (.row (itCells nv ⟨ma, mk', ms, mn, mm, mf⟩) 0 false)).new (.row [.string nm, vv, .bool set] 0 false) := ⟨_, rfl⟩
 have F1 : Frm st s1 := by rw [hs1]; exact (Frm.new _ _).trans (Frm.new _ _)
 have n1 : s1.next = st.next + 2 := by rw [hs1]; rfl
 have hA : s1.get (st.next + 1) = some (.row [.string nm, vv, .bool set] 0 false) := by rw [hs1]; exact get_new_same (st.new _) _
 have hX0 : s1.get st.next = some (.row (itCells nv ⟨ma, mk', ms, mn, mm, mf⟩) 0 false) := by
  rw [hs1, get_new_ne _ _ _ (by show st.next + 1 ≠ st.next; omega)]
  exact get_new_same _ _
 have hX : s1.get st.next = some (.row [nv, .bool ma, .bool mk', .bool ms, .bool mn, .bool mm, .bool mf] 0 false) := hX0
 have hx1 : Cel s1 nv ((n0 :: nr).map Value.string) := hx.keep fun i hi => F1.old i (by omega)
 have ix : ∀ K : Value → Prop, popK (.indexAddr 1) [nv, .int .i64 0] K = K (bptr nv 0) := fun K => by
  rw [idx_cel hx1 .i64 0 K (by omega) (by simp)]
 have ld : ∀ K : Value → Prop, ropK .load1 [bptr nv 0] s1 K = K (.string n0) := fun K => by
  rw [load_cel hx1 0 K (by omega) (by simp)]
  rfl
 have ld' : ∀ K : Value → Prop, ropK .load1 [bptr nv 0] ((st.new (.row (itCells nv ⟨ma, mk', ms, mn, mm, mf⟩) 0 false)).new (.row [.string nm, vv, .bool set] 0 false)) K = K (.string n0) := by rw [← hs1]; exact ld
 simp (disch := omega) only [↓sxA, ↓wk_store, sxB, sxP, simprocAttr]
 refine ⟨rfl, ?_⟩
 have q0 : ∀ (o p : AObj), ((st.new o).new p).get st.next = some o := fun o p => by rw [get_new_ne _ _ _ (by show st.next + 1 ≠ st.next; omega), get_new_same]
 have q1 : ∀ (o p : AObj), ((st.new o).new p).get (st.next + 1) = some p := fun o p => get_new_same (st.new o) p
 have hit : itCells nv ⟨ma, mk', ms, mn, mm, mf⟩ = [nv, .bool ma, .bool mk', .bool ms, .bool mn, .bool mm, .bool mf] := rfl
 rw [hit] at ld'
 have h2e1 : 2 < s1.next := by omega
 have hv1 : Cel s1 vv (vals.map Value.string) := hv.keep fun i hi => F1.old i (by omega)
 by_cases e1 : nm = n0
 case neg =>
  have e1' : (nm = n0) = False := eq_false e1
  have hh := h s1 F1
  rw [hs1] at hh
  have : alongA ⟨n0 :: nr, ⟨ma, mk', ms, mn, mm, mf⟩⟩ nm ⟨vals, set, nmd⟩ = false := by simp [alongA, nm0, e1]
  rw [this] at hh
  simp (disch := omega) only [↓sxA, ↓wk_store, sxB, sxP, simprocAttr, hit, q0, q1, ↓ix, ↓ld', e1']
  exact hh
 subst e1
 cases ma <;> cases set
 rotate_left 2
 ·have hh := h s1 F1
  rw [hs1] at hh
  have : alongA ⟨nm :: nr, ⟨true, mk', ms, mn, mm, mf⟩⟩ nm ⟨vals, false, nmd⟩ = false := by simp [alongA, nm0]
  rw [this] at hh
  simp (disch := omega) only [↓sxA, ↓wk_store, sxB, sxP, simprocAttr, hit, q0, q1, ↓ix, ↓ld']
  exact hh
 all_goals
  simp (disch := omega) only [↓sxA, ↓wk_store, sxB, sxP, simprocAttr, hit, q0, q1, ↓ix, ↓ld', pk_mkFunc, List.take_zero, List.drop_zero]
  have hs2 := hs1.symm
  rw [hit] at hs2
  rw [hs2]
  refine kHasBad n hX0 (by omega) hv1 (by omega) hl hs h2e1 (F1.err h2e he) fun s2 G => ?_
  have F2 := F1.trans G
  have hA2 := (G.old (st.next + 1) (by omega)).trans hA
  have hX2 := (G.old st.next (by omega)).trans hX
  have hv2 : Cel s2 vv (vals.map Value.string) := hv1.keep fun i hi => G.old i (by omega)
  have hn2 := len_cel hv2
  rw [List.length_map] at hn2
  have hh := h s2 F2
  cases hal : vals.all (valOk ⟨_, mk', ms, mn, mm, mf⟩) with
  | false =>
   simp only [alongA, hal, Bool.and_false, Bool.false_and] at hh
   simp (disch := omega) only [↓sxA, ↓wk_store, sxB, sxP, simprocAttr]
   exact hh
  | true =>
   cases ms with
   | true =>
    simp (disch := omega) only [↓sxA, ↓wk_store, sxB, sxP, simprocAttr, hA2, hX2, ↓hn2]
    by_cases hz : vals = []
    ·rw [if_pos (by rw [hz]; rfl)]
     simpa [alongA, nm0, hal, hz] using hh
    ·rw [if_neg (by have := List.length_pos_iff.2 hz; omega)]
     have hze : vals.isEmpty = false := by
      cases vals with
      | nil => exact (hz rfl).elim
      | cons a r => rfl
     simpa [alongA, nm0, hal, hze] using hh
   | false =>
    have b1 : (true ^^ (true == true)) = false := rfl
    have b2 : (true ^^ (false == true)) = true := rfl
    have b3 : (false ^^ (true == true)) = true := rfl
    have b4 : (false ^^ (false == true)) = false := rfl
    have b5 : (true == false) = false := rfl
    have b6 : (false == true) = false := rfl
    rcases vals with _ | ⟨v0, vr⟩
    ·have z1 : (([] : List ByteArray).length : Int) = 0 := rfl
     cases mm <;> cases mf
     all_goals
      simp (disch := omega) only [↓sxA, ↓wk_store, sxB, sxP, simprocAttr, hA2, hX2, ↓hn2, z1, b1, b2, b3, b4, b5, b6]
      try simp (disch := omega) only [↓sxA, ↓wk_store, sxB, sxP, simprocAttr, hA2, hX2, ↓hn2, z1, b1, b2, b3, b4, b5, b6]
      simpa [alongA, nm0, hal] using hh
    ·have z1 : (0 : Int) < ((v0 :: vr).length : Nat) := by rw [List.length_cons]; omega
     have i2 : ∀ K : Value → Prop, popK (.indexAddr 1) [vv, .int .i64 0] K = K (bptr vv 0) := fun K => by
      rw [idx_cel hv2 .i64 0 K (by omega) (by simp)]
     have l2 : ∀ K : Value → Prop, ropK .load1 [bptr vv 0] s2 K = K (.string v0) := fun K => by
      rw [load_cel hv2 0 K (by omega) (by simp)]
      rfl
     have hal1 := hal
     rw [List.all_cons, Bool.and_eq_true] at hal1
     obtain ⟨hal1, hal2⟩ := hal1
     by_cases hvr : vr = []
     ·subst hvr
      have z2 : ¬ (1 : Int) < (([v0] : List ByteArray).length : Nat) := by simp
      cases mm <;> cases mf
      all_goals
       simp (disch := omega) only [↓sxA, ↓wk_store, sxB, sxP, simprocAttr, hA2, hX2, ↓hn2, b1, b2, b3, b4, b5, b6, ↓i2, ↓l2]
       first
       | (simpa [alongA, nm0, hal1, hal2] using hh; done)
       | skip
      all_goals
       have hok : v0.data.toList.all okB = true := by
        rw [List.all_cons, Bool.and_eq_true] at hal
        have := hal.1
        unfold valOk okT at this
        rw [Bool.and_eq_true] at this
        exact this.1
       have hz0 := hs v0 (by simp)
       have hvz := size_list v0
       refine iteI (fun c0 => ?_) (fun c0 => ?_)
       ·have hre : restV v0.data.toList = false := by rw [c0]; rfl
        simpa [alongA, nm0, hal1, hal2, hre] using hh
       have hne : v0.data.toList ≠ [] := fun e => c0 (by rw [← bs_of v0, e]; rfl)
       have hpos : 0 < v0.size := by have := List.length_pos_iff.2 hne; omega
       have key := restV_eq hok hne
       rw [bs_of] at key
       refine kTrimB _ v0 (by omega) ?_
       by_cases c1 : trimV v0 ⟨#[32]⟩ = v0
       case neg =>
        have c1' : (trimV v0 ⟨#[32]⟩ = v0) = False := eq_false c1
        rw [decide_eq_false c1, Bool.false_and, Bool.false_and] at key
        simp (disch := omega) only [↓sxA, ↓wk_store, sxB, sxP, simprocAttr, c1']
        simpa [alongA, nm0, hal1, hal2, key] using hh
       have c1' : (trimV v0 ⟨#[32]⟩ = v0) = True := eq_true c1
       rw [decide_eq_true c1, Bool.true_and] at key
       obtain ⟨c, hc, hgd, hcb⟩ := byte_at v0 0 hpos
       have hhd : v0.data.toList.head? = some c := by rw [← hc]; exact List.head?_eq_getElem?
       have hgd' : v0.data.toList.getD 0 0 = c := hgd
       simp (disch := omega) only [↓sxA, ↓wk_store, sxB, sxP, simprocAttr, c1', q_indexStr]
       rw [hgd']
       by_cases c2 : (c.toNat : Int) = 61
       case pos =>
        have c3 : c = 61 := u8_eq (n := 61) c2
        have c2' : ((c.toNat : Int) = 61) = True := eq_true c2
        rw [hhd, c3, decide_eq_false (by simp), Bool.false_and] at key
        simp (disch := omega) only [↓sxA, ↓wk_store, sxB, sxP, simprocAttr, c2']
        simpa [alongA, nm0, hal1, hal2, key] using hh
       have c2' : ((c.toNat : Int) = 61) = False := eq_false c2
       have c3 : c ≠ 61 := fun e => c2 (by rw [e]; rfl)
       rw [hhd, decide_eq_true (by simpa using c3), Bool.true_and] at key
       simp (disch := omega) only [↓sxA, ↓wk_store, sxB, sxP, simprocAttr, c2']
       refine kHasLF _ v0 hz0 (F2.max (by omega) hm) ?_
       cases hlf : decide ((10 : UInt8) ∈ v0.data.toList) with
       | true =>
        rw [hlf, Bool.not_true] at key
        simp (disch := omega) only [↓sxA, ↓wk_store, sxB, sxP, simprocAttr]
        simpa [alongA, nm0, hal1, hal2, key] using hh
       | false =>
        rw [hlf, Bool.not_false] at key
        simp (disch := omega) only [↓sxA, ↓wk_store, sxB, sxP, simprocAttr]
        simpa [alongA, nm0, hal1, hal2, key] using hh
     ·have z2 : (1 : Int) < ((v0 :: vr).length : Nat) := by have := List.length_pos_iff.2 hvr; rw [List.length_cons]; omega
      cases mm <;> cases mf
      all_goals
       simp (disch := omega) only [↓sxA, ↓wk_store, sxB, sxP, simprocAttr, hA2, hX2, ↓hn2, b1, b2, b3, b4, b5, b6, ↓i2, ↓l2]
       first
       | (simpa [alongA, nm0, hal1, hal2, hvr, hvr] using hh; done)
       | skip
      all_goals
       have hok : v0.data.toList.all okB = true := by
        rw [List.all_cons, Bool.and_eq_true] at hal
        have := hal.1
        unfold valOk okT at this
        rw [Bool.and_eq_true] at this
        exact this.1
       have hz0 := hs v0 (by simp)
       have hvz := size_list v0
       refine iteI (fun c0 => ?_) (fun c0 => ?_)
       ·have hre : restV v0.data.toList = false := by rw [c0]; rfl
        simpa [alongA, nm0, hal1, hal2, hvr, hre] using hh
       have hne : v0.data.toList ≠ [] := fun e => c0 (by rw [← bs_of v0, e]; rfl)
       have hpos : 0 < v0.size := by have := List.length_pos_iff.2 hne; omega
       have key := restV_eq hok hne
       rw [bs_of] at key
       refine kTrimB _ v0 (by omega) ?_
       by_cases c1 : trimV v0 ⟨#[32]⟩ = v0
       case neg =>
        have c1' : (trimV v0 ⟨#[32]⟩ = v0) = False := eq_false c1
        rw [decide_eq_false c1, Bool.false_and, Bool.false_and] at key
        simp (disch := omega) only [↓sxA, ↓wk_store, sxB, sxP, simprocAttr, c1']
        simpa [alongA, nm0, hal1, hal2, hvr, key] using hh
       have c1' : (trimV v0 ⟨#[32]⟩ = v0) = True := eq_true c1
       rw [decide_eq_true c1, Bool.true_and] at key
       obtain ⟨c, hc, hgd, hcb⟩ := byte_at v0 0 hpos
       have hhd : v0.data.toList.head? = some c := by rw [← hc]; exact List.head?_eq_getElem?
       have hgd' : v0.data.toList.getD 0 0 = c := hgd
       simp (disch := omega) only [↓sxA, ↓wk_store, sxB, sxP, simprocAttr, c1', q_indexStr]
       rw [hgd']
       by_cases c2 : (c.toNat : Int) = 61
       case pos =>
        have c3 : c = 61 := u8_eq (n := 61) c2
        have c2' : ((c.toNat : Int) = 61) = True := eq_true c2
        rw [hhd, c3, decide_eq_false (by simp), Bool.false_and] at key
        simp (disch := omega) only [↓sxA, ↓wk_store, sxB, sxP, simprocAttr, c2']
        simpa [alongA, nm0, hal1, hal2, hvr, key] using hh
       have c2' : ((c.toNat : Int) = 61) = False := eq_false c2
       have c3 : c ≠ 61 := fun e => c2 (by rw [e]; rfl)
       rw [hhd, decide_eq_true (by simpa using c3), Bool.true_and] at key
       simp (disch := omega) only [↓sxA, ↓wk_store, sxB, sxP, simprocAttr, c2']
       refine kHasLF _ v0 hz0 (F2.max (by omega) hm) ?_
       cases hlf : decide ((10 : UInt8) ∈ v0.data.toList) with
       | true =>
        rw [hlf, Bool.not_true] at key
        simp (disch := omega) only [↓sxA, ↓wk_store, sxB, sxP, simprocAttr]
        simpa [alongA, nm0, hal1, hal2, hvr, key] using hh
       | false =>
        rw [hlf, Bool.not_false] at key
        simp (disch := omega) only [↓sxA, ↓wk_store, sxB, sxP, simprocAttr]
        simpa [alongA, nm0, hal1, hal2, hvr, key] using hh
end
end Go.Proofs.YtdmemibnphcedaaGreatDoor
end
section
set_option linter.unusedSimpArgs false
set_option linter.unusedVariables false
set_option maxRecDepth 10000
set_option linter.unusedSectionVars false
namespace Go.Proofs.YtdmemibnphcedaaGreatDoor
open Go.Am
attribute [local irreducible] callO wopK ropK popK opK grpsE listE sx Runs

section
variable {st : St} {K : Value → St → Prop} {v : Value} {xs : List ByteArray}

end
end Go.Proofs.YtdmemibnphcedaaGreatDoor
end
