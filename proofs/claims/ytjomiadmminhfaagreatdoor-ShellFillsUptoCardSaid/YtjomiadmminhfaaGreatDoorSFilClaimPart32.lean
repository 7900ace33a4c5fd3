/-
  A line without $ is filled: it stays.
-/
import Derived.Test.YtjomiadmminhfaaGreatDoorSFilClaimPart15
set_option maxRecDepth 10000
namespace Go.Proofs.YtjomiadmminhfaaGreatDoor
open Go.RowKit

set_option maxHeartbeats 4000000 in
set_option maxRecDepth 100000 in
theorem filled_walk (a : Option Addr) (s : ByteArray) (w : World) (hs : s.size ≤ 1000000) (hr : ∀ j (h : j < s.size), s[j]'h ≠ 36) :
  Calls Tryz.prog 61 #[.pointer a, .string s] w fun e w' => e = .returned (.string s) ∧ Below w.heap.size w w' := by
 have Hr := Any.hidU hr
 clear hr
 have h0 : Lib.IsBuilder 50 5 w.heap.size w.heap.size [] (w.alloc (.cells #[.pointer none, .slice none 0 0] 50)) := Lib.fresh_isBuilder 50 5 w
 have b0 : Below w.heap.size w (w.alloc (.cells #[.pointer none, .slice none 0 0] 50)) := (Below.refl _ w).alloc (Nat.le_refl _) _
 go_enter Tryz.func61, Tryz.ntmps61
 go_wp2
 go_loopw [6] (fun v wr => ∃ (i : Nat), v = .int .i64 i ∧ i ≤ s.size ∧ Hid (Lib.IsBuilder 50 5 w.heap.size w.heap.size (Lib.byteCells (s.data.toList.take i)) wr) ∧ Hid (Below w.heap.size w wr)) (fun v _ => s.size - (intOf v).toNat)
 case atStart => exact ⟨0, by go_num, Nat.zero_le _, Any.hidU h0, Any.hidU b0⟩
 case round =>
  obtain ⟨i, rfl, hi, HB, HW⟩ := hrel
  have hBw := HW.out.size
  have hll : s.data.toList.length = s.size := Array.length_toList
  have hlen : (Lib.byteCells (s.data.toList.take i)).length + 1 ≤ 140737488355328 := by rw [Lib.byteCells_length, List.length_take]; omega
  by_cases hlt : i < s.size
  ·have n36 := Hr.out i hlt
   have n36' : ¬ ((s[i]'hlt).toNat : Int) = 36 := fun e => n36 (u8_of (n := 36) e (by decide))
   go_wp2_with fail
   refine (bld_write w.heap.size w.heap.size _ ((s[i]'hlt).toNat : Int) wr HB.out hlen hBw).mono ?_
   rintro e w2 ⟨rfl, h2, hb2⟩
   have hcell : Lib.byteCells (s.data.toList.take i) ++ [Value.int .u8 ((s[i]'hlt).toNat : Int)] = Lib.byteCells (s.data.toList.take (i + 1)) := by
    rw [List.take_succ_eq_append_getElem (by omega), Lib.byteCells_append]
    rfl
   rw [hcell] at h2
   have H2 := Any.hidU (Or.inr h2 : Lib.IsBuilder 50 5 w.heap.size w.heap.size _ w2)
   have Hb2 := Any.hidU (HW.out.trans hb2)
   clear h2 hb2 hcell
   go_wp2
   exact ⟨⟨i + 1, by go_num, by omega, H2, Hb2⟩, by simp [intOf]; omega⟩
  ·have e : i = s.size := by omega
   subst e
   go_wp2_with (go_at_call 28; refine (Tryz.Builder_String_any w.heap.size w.heap.size (s.data.toList.take s.size) wr HB.out hBw).mono ?_)
   rintro e w2 ⟨rfl, hb2⟩
   have Hb2 := Any.hidU hb2
   clear hb2
   go_wp2
   go_ret
   refine ⟨?_, HW.out.trans Hb2.out⟩
   rw [List.take_of_length_le (by omega), Array.toArray_toList]
   rfl
end Go.Proofs.YtjomiadmminhfaaGreatDoor
