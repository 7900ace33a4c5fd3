/-
  The program's quoted, walked by the kit's steps: a builder that is written byte by byte.
-/
import Derived.Test.YtjomiadmminhfaaGreatDoorSFilClaimPart13
import Derived.Test.YtjomiadmminhfaaGreatDoorSFilClaimPart14
set_option maxRecDepth 10000
namespace Go.Proofs.YtjomiadmminhfaaGreatDoor
open Go.RowKit

def quoR (L : List UInt8) (p : Nat) : Option (List UInt8 × Nat) := quo (L.drop p)
def quoVal (p : Nat) (o : Option (List UInt8 × Nat)) : Value := match o with
 | some x => .tuple #[.string ⟨x.1.toArray⟩, .int .i64 ((p + x.2 : Nat) : Int)]
 | none => .tuple #[.string ⟨#[]⟩, .int .i64 (-1)]

section
variable {s : ByteArray} {i : Nat}
theorem ba_drop (hlt : i < s.size) : s.data.toList.drop i = s[i]'hlt :: s.data.toList.drop (i + 1) := by
 have h : i < s.data.toList.length := by rw [Array.length_toList]; exact hlt
 rw [List.drop_eq_getElem_cons h]
 rfl
theorem ba_end (h : s.size ≤ i) : s.data.toList.drop i = [] := List.drop_eq_nil_of_le (by rw [Array.length_toList]; exact h)
theorem u8_of {a : UInt8} {n : Nat} (h : (a.toNat : Int) = (n : Int)) (_ : n < 256) : a = UInt8.ofNat n := by
 have : a.toNat = n := by omega
 rw [← this]; simp
theorem u8_ne {a b : UInt8} (h : ¬ (a.toNat : Int) = (b.toNat : Int)) : a ≠ b := fun e => h (by rw [e])

theorem quo_end (h : s.size ≤ i) : quoR s.data.toList i = none := by rw [quoR, ba_end h]; rfl
theorem quo_stop (hlt : i < s.size) (h1 : s.size ≤ i + 1) (hc : s[i]'hlt = 34) : quoR s.data.toList i = some ([], 1) := by
 rw [quoR, ba_drop hlt, ba_end h1, hc]; rfl
theorem quo_stop2 (hlt : i < s.size) (hlt1 : i + 1 < s.size) (hc : s[i]'hlt = 34) (hd : s[i + 1]'hlt1 = 32 ∨ s[i + 1]'hlt1 = 61) : quoR s.data.toList i = some ([], 1) := by
 rw [quoR, ba_drop hlt, ba_drop hlt1, hc]
 simp only [quo, if_true]
 rw [if_pos hd]
theorem quo_no (hlt : i < s.size) (hlt1 : i + 1 < s.size) (hc : s[i]'hlt = 34) (h1 : s[i + 1]'hlt1 ≠ 32) (h2 : s[i + 1]'hlt1 ≠ 61) : quoR s.data.toList i = none := by
 rw [quoR, ba_drop hlt, ba_drop hlt1, hc]
 simp only [quo, if_true]
 rw [if_neg (by rintro (e | e); exact h1 e; exact h2 e)]
theorem quo_esc (hlt : i < s.size) (hlt1 : i + 1 < s.size) (hc : s[i]'hlt = 42) (hd : s[i + 1]'hlt1 = 34 ∨ s[i + 1]'hlt1 = 42) : quoR s.data.toList i = (quoR s.data.toList (i + 2)).map fun x => (s[i + 1]'hlt1 :: x.1, x.2 + 2) := by
 rw [quoR, ba_drop hlt, ba_drop hlt1, hc]
 simp only [quo]
 rw [if_neg (by decide), if_neg (by decide), if_pos (by simp [hd])]
 rfl
theorem quo_n (hlt : i < s.size) (hlt1 : i + 1 < s.size) (hc : s[i]'hlt = 42) (hd : s[i + 1]'hlt1 = 110) : quoR s.data.toList i = (quoR s.data.toList (i + 2)).map fun x => (10 :: x.1, x.2 + 2) := by
 rw [quoR, ba_drop hlt, ba_drop hlt1, hc, hd]
 simp only [quo]
 rw [if_neg (by decide), if_neg (by decide), if_neg (by decide), if_pos (by simp)]
 rfl
theorem quo_oth (hlt : i < s.size) (hp : prn (s[i]'hlt) = true) (hc : s[i]'hlt ≠ 34) (hd : ∀ h1 : i + 1 < s.size, s[i]'hlt = 42 → s[i + 1]'h1 ≠ 34 ∧ s[i + 1]'h1 ≠ 42 ∧ s[i + 1]'h1 ≠ 110) : quoR s.data.toList i = (quoR s.data.toList (i + 1)).map fun x => (s[i]'hlt :: x.1, x.2 + 1) := by
 unfold quoR
 rw [ba_drop hlt]
 by_cases h1 : i + 1 < s.size
 ·rw [ba_drop h1]
  simp only [quo]
  rw [if_neg hc, if_neg (by rw [hp]; decide), if_neg, if_neg]
  ·rintro ⟨e1, e2⟩; exact (hd h1 e1).2.2 e2
  ·rintro ⟨e1, e2 | e2⟩
   ·exact (hd h1 e1).1 e2
   ·exact (hd h1 e1).2.1 e2
 ·rw [ba_end (by omega)]
  simp only [quo]
  rw [if_neg hc]
  rfl
theorem quo_pre {L : List UInt8} {p n : Nat} {acc : List UInt8} {c : UInt8} (hp : p ≤ i) (h : quoR L p = (quoR L i).map fun x => (acc ++ x.1, x.2 + (i - p))) (k : quoR L i = (quoR L (i + n)).map fun x => (c :: x.1, x.2 + n)) : quoR L p = (quoR L (i + n)).map fun x => (acc ++ [c] ++ x.1, x.2 + (i + n - p)) := by
 rw [h, k, Option.map_map]
 congr 1
 funext x
 simp
 omega
end

set_option maxHeartbeats 4000000 in
set_option maxRecDepth 100000 in
theorem quoted_walk (s : ByteArray) (at' : Nat) (w : World) (hs : s.size ≤ 1000000) (hat : at' < s.size) (hr : ∀ j (h : j < s.size), prn (s[j]'h) = true) :
    Calls Tryz.prog 116 #[.string s, .int .i64 at'] w fun e w' => e = .returned (quoVal (at' + 1) (quoR s.data.toList (at' + 1))) ∧ Below w.heap.size w w' := by
  have Hr := Any.hidU hr
  clear hr
  have h0 : Lib.IsBuilder 50 5 w.heap.size w.heap.size [] (w.alloc (.cells #[.pointer none, .slice none 0 0] 50)) := Lib.fresh_isBuilder 50 5 w
  have b0 : Below w.heap.size w (w.alloc (.cells #[.pointer none, .slice none 0 0] 50)) := (Below.refl _ w).alloc (Nat.le_refl _) _
  go_enter Tryz.func116, Tryz.ntmps116
  go_wp2
  go_loopw [7] (fun v wr => ∃ (i : Nat) (acc : List UInt8), v = .int .i64 i ∧ at' + 1 ≤ i ∧ i ≤ s.size ∧ acc.length ≤ i ∧ Hid (Lib.IsBuilder 50 5 w.heap.size w.heap.size (Lib.byteCells acc) wr) ∧ Hid (quoR s.data.toList (at' + 1) = (quoR s.data.toList i).map fun x => (acc ++ x.1, x.2 + (i - (at' + 1)))) ∧ Hid (Below w.heap.size w wr)) (fun v _ => s.size - (intOf v).toNat)
  case atStart => exact ⟨at' + 1, [], by go_num, Nat.le_refl _, hat, Nat.zero_le _, Any.hidU h0, Any.hidU (by simp), Any.hidU b0⟩
  case round =>
    obtain ⟨i, acc, rfl, hi1, hi2, hac, HB, HQ, HW⟩ := hrel
    have hBw := HW.out.size
    have hlen : (Lib.byteCells acc).length + 1 ≤ 140737488355328 := by rw [Lib.byteCells_length]; omega
    by_cases hlt : i < s.size
    · go_wp2_with fail
      · have hlt1 : i + 1 < s.size := by omega
        have := Hr.out (i + 1) hlt1
        have h00 : (s[i + 1]'hlt1).toNat = 0 := by assumption
        unfold prn at this
        rw [h00] at this
        cases this
      · have hlt1 : i + 1 < s.size := by omega
        have e34 : s[i]'hlt = 34 := u8_of (beq_iff_eq.1 ‹(((s[i]'hlt).toNat : Int) == 34) = true›) (by decide)
        have ed : s[i + 1]'hlt1 = 32 := u8_of ‹((s[i + 1]'hlt1).toNat : Int) = 32› (by decide)
        refine (Tryz.Builder_String_any w.heap.size w.heap.size acc wr HB.out hBw).mono ?_
        rintro e w2 ⟨rfl, hb2⟩
        have Hq := Any.hidU (quo_stop2 hlt hlt1 e34 (.inl ed))
        have Hb2 := Any.hidU hb2
        clear hb2
        go_wp2
        go_ret2
        refine ⟨?_, HW.out.trans Hb2.out⟩
        rw [HQ.out, Hq.out]
        have hsum : ((at' + 1 + (1 + (i - (at' + 1))) : Nat) : Int) = (i : Int) + 1 := by omega
        simp only [Option.map_some, quoVal, List.append_nil, hsum]
        rfl
      · have hlt1 : i + 1 < s.size := by omega
        have e34 : s[i]'hlt = 34 := u8_of (beq_iff_eq.1 ‹(((s[i]'hlt).toNat : Int) == 34) = true›) (by decide)
        have ed : s[i + 1]'hlt1 = 61 := by
          rcases ‹(((((s[i + 1]'hlt1).toNat : Int) == 0) = true ∨ (((s[i + 1]'hlt1).toNat : Int) == 32) = true) ∨ (((s[i + 1]'hlt1).toNat : Int) == 61) = true)› with (e | e) | e
          · exact absurd (beq_iff_eq.1 e) (by have : ¬ (s[i + 1]'hlt1).toNat = 0 := by assumption
                                              omega)
          · exact absurd (beq_iff_eq.1 e) ‹¬ ((s[i + 1]'hlt1).toNat : Int) = 32›
          · exact u8_of (beq_iff_eq.1 e) (by decide)
        refine (Tryz.Builder_String_any w.heap.size w.heap.size acc wr HB.out hBw).mono ?_
        rintro e w2 ⟨rfl, hb2⟩
        have Hq := Any.hidU (quo_stop2 hlt hlt1 e34 (.inr ed))
        have Hb2 := Any.hidU hb2
        clear hb2
        go_wp2
        go_ret2
        refine ⟨?_, HW.out.trans Hb2.out⟩
        rw [HQ.out, Hq.out]
        have hsum : ((at' + 1 + (1 + (i - (at' + 1))) : Nat) : Int) = (i : Int) + 1 := by omega
        simp only [Option.map_some, quoVal, List.append_nil, hsum]
        rfl
      · have hlt1 : i + 1 < s.size := by omega
        have e34 : s[i]'hlt = 34 := u8_of (beq_iff_eq.1 ‹(((s[i]'hlt).toNat : Int) == 34) = true›) (by decide)
        have n32 : s[i + 1]'hlt1 ≠ 32 := u8_ne ‹¬ ((s[i + 1]'hlt1).toNat : Int) = 32›
        have n61 : s[i + 1]'hlt1 ≠ 61 := by
          obtain ⟨_, e⟩ := ‹(((((s[i + 1]'hlt1).toNat : Int) == 0) = false ∧ (((s[i + 1]'hlt1).toNat : Int) == 32) = false) ∧ (((s[i + 1]'hlt1).toNat : Int) == 61) = false)›
          exact u8_ne (beq_eq_false_iff_ne.1 e)
        have hq := quo_no hlt hlt1 e34 n32 n61
        go_ret2
        refine ⟨?_, HW.out⟩
        rw [HQ.out, hq]
        rfl
      · have hlt1 : i + 1 < s.size := by omega
        have e42 : s[i]'hlt = 42 := u8_of ‹((s[i]'hlt).toNat : Int) = 42› (by decide)
        have ed : s[i + 1]'hlt1 = 34 := u8_of ‹((s[i + 1]'hlt1).toNat : Int) = 34› (by decide)
        have hq := quo_esc hlt hlt1 e42 (.inl ed)
        rw [ed] at hq
        refine (bld_write w.heap.size w.heap.size _ 34 wr HB.out hlen hBw).mono ?_
        rintro e w2 ⟨rfl, h2, hb2⟩
        have hcell : Lib.byteCells acc ++ [Value.int .u8 34] = Lib.byteCells (acc ++ [34]) := by
          rw [Lib.byteCells_append]
          first | rfl | (simp [Lib.byteCells]; omega)
        rw [hcell] at h2
        have H2 := Any.hidU (Or.inr h2 : Lib.IsBuilder 50 5 w.heap.size w.heap.size _ w2)
        have Hb2 := Any.hidU (HW.out.trans hb2)
        have Hq := Any.hidU (quo_pre (n := 2) hi1 HQ.out (hq))
        clear h2 hb2 hcell
        go_wp2
        exact ⟨⟨i + 2, acc ++ [34], by go_num, by omega, by omega, by simp; omega, H2, Hq, Hb2⟩, by simp [intOf]; omega⟩
      · have hlt1 : i + 1 < s.size := by omega
        have e42 : s[i]'hlt = 42 := u8_of ‹((s[i]'hlt).toNat : Int) = 42› (by decide)
        have ed : s[i + 1]'hlt1 = 34 ∨ s[i + 1]'hlt1 = 42 := by
          rcases ‹(((s[i + 1]'hlt1).toNat : Int) == 34) = true ∨ (((s[i + 1]'hlt1).toNat : Int) == 42) = true› with e | e
          · exact .inl (u8_of (beq_iff_eq.1 e) (by decide))
          · exact .inr (u8_of (beq_iff_eq.1 e) (by decide))
        refine (bld_write w.heap.size w.heap.size _ ((s[i + 1]'hlt1).toNat : Int) wr HB.out hlen hBw).mono ?_
        rintro e w2 ⟨rfl, h2, hb2⟩
        have hcell : Lib.byteCells acc ++ [Value.int .u8 ((s[i + 1]'hlt1).toNat : Int)] = Lib.byteCells (acc ++ [s[i + 1]'hlt1]) := by
          rw [Lib.byteCells_append]
          first | rfl | (simp [Lib.byteCells]; omega)
        rw [hcell] at h2
        have H2 := Any.hidU (Or.inr h2 : Lib.IsBuilder 50 5 w.heap.size w.heap.size _ w2)
        have Hb2 := Any.hidU (HW.out.trans hb2)
        have Hq := Any.hidU (quo_pre (n := 2) hi1 HQ.out (quo_esc hlt hlt1 e42 ed))
        clear h2 hb2 hcell
        go_wp2
        exact ⟨⟨i + 2, acc ++ [s[i + 1]'hlt1], by go_num, by omega, by omega, by simp; omega, H2, Hq, Hb2⟩, by simp [intOf]; omega⟩
      · have hlt1 : i + 1 < s.size := by omega
        have e42 : s[i]'hlt = 42 := u8_of ‹((s[i]'hlt).toNat : Int) = 42› (by decide)
        have ed : s[i + 1]'hlt1 = 110 := u8_of (beq_iff_eq.1 ‹(((s[i + 1]'hlt1).toNat : Int) == 110) = true›) (by decide)
        refine (bld_write w.heap.size w.heap.size _ 10 wr HB.out hlen hBw).mono ?_
        rintro e w2 ⟨rfl, h2, hb2⟩
        have hcell : Lib.byteCells acc ++ [Value.int .u8 10] = Lib.byteCells (acc ++ [10]) := by
          rw [Lib.byteCells_append]
          first | rfl | (simp [Lib.byteCells]; omega)
        rw [hcell] at h2
        have H2 := Any.hidU (Or.inr h2 : Lib.IsBuilder 50 5 w.heap.size w.heap.size _ w2)
        have Hb2 := Any.hidU (HW.out.trans hb2)
        have Hq := Any.hidU (quo_pre (n := 2) hi1 HQ.out (quo_n hlt hlt1 e42 ed))
        clear h2 hb2 hcell
        go_wp2
        exact ⟨⟨i + 2, acc ++ [10], by go_num, by omega, by omega, by simp; omega, H2, Hq, Hb2⟩, by simp [intOf]; omega⟩
      · have hlt1 : i + 1 < s.size := by omega
        have e42 : s[i]'hlt = 42 := u8_of ‹((s[i]'hlt).toNat : Int) = 42› (by decide)
        have nd : s[i + 1]'hlt1 ≠ 34 ∧ s[i + 1]'hlt1 ≠ 42 ∧ s[i + 1]'hlt1 ≠ 110 := by
          obtain ⟨a1, a2⟩ := ‹(((s[i + 1]'hlt1).toNat : Int) == 34) = false ∧ (((s[i + 1]'hlt1).toNat : Int) == 42) = false›
          exact ⟨u8_ne (beq_eq_false_iff_ne.1 a1), u8_ne (beq_eq_false_iff_ne.1 a2), u8_ne (beq_eq_false_iff_ne.1 ‹(((s[i + 1]'hlt1).toNat : Int) == 110) = false›)⟩
        have hq := quo_oth hlt (Hr.out i hlt) (by rw [e42]; decide) (fun _ _ => nd)
        rw [e42] at hq
        refine (bld_write w.heap.size w.heap.size _ 42 wr HB.out hlen hBw).mono ?_
        rintro e w2 ⟨rfl, h2, hb2⟩
        have hcell : Lib.byteCells acc ++ [Value.int .u8 42] = Lib.byteCells (acc ++ [42]) := by
          rw [Lib.byteCells_append]
          first | rfl | (simp [Lib.byteCells]; omega)
        rw [hcell] at h2
        have H2 := Any.hidU (Or.inr h2 : Lib.IsBuilder 50 5 w.heap.size w.heap.size _ w2)
        have Hb2 := Any.hidU (HW.out.trans hb2)
        have Hq := Any.hidU (quo_pre (n := 1) hi1 HQ.out (hq))
        clear h2 hb2 hcell
        go_wp2
        exact ⟨⟨i + 1, acc ++ [42], by go_num, by omega, by omega, by simp; omega, H2, Hq, Hb2⟩, by simp [intOf]; omega⟩
      · have n42 : s[i]'hlt ≠ 42 := u8_ne ‹¬ ((s[i]'hlt).toNat : Int) = 42›
        have n34 : s[i]'hlt ≠ 34 := u8_ne (beq_eq_false_iff_ne.1 ‹(((s[i]'hlt).toNat : Int) == 34) = false›)
        refine (bld_write w.heap.size w.heap.size _ ((s[i]'hlt).toNat : Int) wr HB.out hlen hBw).mono ?_
        rintro e w2 ⟨rfl, h2, hb2⟩
        have hcell : Lib.byteCells acc ++ [Value.int .u8 ((s[i]'hlt).toNat : Int)] = Lib.byteCells (acc ++ [s[i]'hlt]) := by
          rw [Lib.byteCells_append]
          first | rfl | (simp [Lib.byteCells]; omega)
        rw [hcell] at h2
        have H2 := Any.hidU (Or.inr h2 : Lib.IsBuilder 50 5 w.heap.size w.heap.size _ w2)
        have Hb2 := Any.hidU (HW.out.trans hb2)
        have Hq := Any.hidU (quo_pre (n := 1) hi1 HQ.out (quo_oth hlt (Hr.out i hlt) n34 (fun _ e => absurd e n42)))
        clear h2 hb2 hcell
        go_wp2
        exact ⟨⟨i + 1, acc ++ [s[i]'hlt], by go_num, by omega, by omega, by simp; omega, H2, Hq, Hb2⟩, by simp [intOf]; omega⟩
      · have e34 : s[i]'hlt = 34 := u8_of (beq_iff_eq.1 ‹(((s[i]'hlt).toNat : Int) == 34) = true›) (by decide)
        refine (Tryz.Builder_String_any w.heap.size w.heap.size acc wr HB.out hBw).mono ?_
        rintro e w2 ⟨rfl, hb2⟩
        have Hq := Any.hidU (quo_stop hlt (by omega) e34)
        have Hb2 := Any.hidU hb2
        clear hb2
        go_wp2
        go_ret2
        refine ⟨?_, HW.out.trans Hb2.out⟩
        rw [HQ.out, Hq.out]
        have hsum : ((at' + 1 + (1 + (i - (at' + 1))) : Nat) : Int) = (i : Int) + 1 := by omega
        simp only [Option.map_some, quoVal, List.append_nil, hsum]
        rfl
      · have e42 : s[i]'hlt = 42 := u8_of ‹((s[i]'hlt).toNat : Int) = 42› (by decide)
        have hq := quo_oth hlt (Hr.out i hlt) (by rw [e42]; decide) (fun h1 _ => absurd h1 (by omega))
        rw [e42] at hq
        refine (bld_write w.heap.size w.heap.size _ 42 wr HB.out hlen hBw).mono ?_
        rintro e w2 ⟨rfl, h2, hb2⟩
        have hcell : Lib.byteCells acc ++ [Value.int .u8 42] = Lib.byteCells (acc ++ [42]) := by
          rw [Lib.byteCells_append]
          first | rfl | (simp [Lib.byteCells]; omega)
        rw [hcell] at h2
        have H2 := Any.hidU (Or.inr h2 : Lib.IsBuilder 50 5 w.heap.size w.heap.size _ w2)
        have Hb2 := Any.hidU (HW.out.trans hb2)
        have Hq := Any.hidU (quo_pre (n := 1) hi1 HQ.out (hq))
        clear h2 hb2 hcell
        go_wp2
        exact ⟨⟨i + 1, acc ++ [42], by go_num, by omega, by omega, by simp; omega, H2, Hq, Hb2⟩, by simp [intOf]; omega⟩
      · have n42 : s[i]'hlt ≠ 42 := u8_ne ‹¬ ((s[i]'hlt).toNat : Int) = 42›
        have n34 : s[i]'hlt ≠ 34 := u8_ne (beq_eq_false_iff_ne.1 ‹(((s[i]'hlt).toNat : Int) == 34) = false›)
        refine (bld_write w.heap.size w.heap.size _ ((s[i]'hlt).toNat : Int) wr HB.out hlen hBw).mono ?_
        rintro e w2 ⟨rfl, h2, hb2⟩
        have hcell : Lib.byteCells acc ++ [Value.int .u8 ((s[i]'hlt).toNat : Int)] = Lib.byteCells (acc ++ [s[i]'hlt]) := by
          rw [Lib.byteCells_append]
          first | rfl | (simp [Lib.byteCells]; omega)
        rw [hcell] at h2
        have H2 := Any.hidU (Or.inr h2 : Lib.IsBuilder 50 5 w.heap.size w.heap.size _ w2)
        have Hb2 := Any.hidU (HW.out.trans hb2)
        have Hq := Any.hidU (quo_pre (n := 1) hi1 HQ.out (quo_oth hlt (Hr.out i hlt) n34 (fun _ e => absurd e n42)))
        clear h2 hb2 hcell
        go_wp2
        exact ⟨⟨i + 1, acc ++ [s[i]'hlt], by go_num, by omega, by omega, by simp; omega, H2, Hq, Hb2⟩, by simp [intOf]; omega⟩
    · have hq := quo_end (s := s) (i := i) (by omega)
      go_wp2
      go_ret2
      refine ⟨?_, HW.out⟩
      rw [HQ.out, hq]
      rfl
end Go.Proofs.YtjomiadmminhfaaGreatDoor
