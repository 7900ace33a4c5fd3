/-
  The program's quoted and Number, walked by the kit's steps: a builder that is written byte by byte; the library's ParseInt.
-/
import Derived.Test.YtdmemibnphcedaaGreatDoorRBckClaimPart12
import Derived.Test.YtdmemibnphcedaaGreatDoorChecked
import Derived.WalkKit
import Derived.BigCall
import Derived.BigGuard
set_option maxRecDepth 10000
namespace Go.Proofs.YtdmemibnphcedaaGreatDoor
open Go.RowKit

theorem bld_write (B b : Nat) (bs : List Value) (c : Int) (w : World) (h : Lib.IsBuilder 113 5 B b bs w) (hlen : bs.length + 1 ≤ 140737488355328) (hBw : B ≤ w.heap.size) :
  Calls Tryz.prog 119 #[.pointer (some ⟨b, 0, none⟩), .int .u8 c] w fun e w' => e = .returned .nilIface ∧ (Lib.BuilderAt 113 5 B b (.pointer (some ⟨b, 0, none⟩)) (bs ++ [.int .u8 c]) w' ∧ Below B w w') := Any.Builder_WriteByte { Tryz.lays159 with } Tryz.Builder_Extra_159 B b bs c w h hlen hBw

def digs : ByteArray := ⟨#[48, 49, 50, 51, 52, 53, 54, 55, 56, 57]⟩
theorem digs_ascii : ∀ (j : Nat) (b : UInt8), digs.data.toList[j]? = some b → b.toNat < 128 := by
 have h : ∀ b ∈ digs.data.toList, b.toNat < 128 := by decide +kernel
 exact fun j b hj => h b (List.mem_of_getElem? hj)

set_option maxHeartbeats 4000000 in
set_option maxRecDepth 100000 in
theorem number_bad (s : ByteArray) (w : World) (hl : (Lib.trimPrefix s.data.toList [45]).length ≤ 1000000) (hd : Lib.trimPrefix s.data.toList [45] = [] ∨ Lib.trimS (Lib.trimPrefix s.data.toList [45]) digs.data.toList ≠ []) :
  Calls Tryz.prog 24 #[.string s] w fun e w' => e = .returned (.tuple #[.int .i64 0, .int .i64 250]) ∧ Below w.heap.size w w' := by
 go_enter Tryz.func24, Tryz.ntmps24
 go_wp2_with first
  | (go_at_call 46; refine (Tryz.strings_TrimPrefix s ⟨#[45]⟩ w).mono ?_)
  | (go_at_call 47; refine (Tryz.strings_Trim ⟨(Lib.trimPrefix s.data.toList [45]).toArray⟩ digs _ (by simp only [ByteArray.size, List.size_toArray]; omega) (by decide) digs_ascii).mono ?_)
 ·go_ret2
  exact ⟨rfl, Below.refl _ _⟩
 ·have hnt : Lib.trimS (Lib.trimPrefix s.data.toList [45]) digs.data.toList ≠ [] := hd.resolve_left (by assumption)
  rintro e w1 rfl hb
  generalize Lib.trimS (Lib.trimPrefix s.data.toList [45]) digs.data.toList = tl at hnt
  obtain ⟨c, r, rfl⟩ := List.exists_cons_of_ne_nil hnt
  have Hb := Any.hidU hb
  clear hb
  go_wp2
  go_ret2
  exact ⟨rfl, Hb.out⟩

set_option maxHeartbeats 4000000 in
set_option maxRecDepth 100000 in
theorem number_good (s : ByteArray) (w : World) (hs : s.size ≤ 1000000) (hl : (Lib.trimPrefix s.data.toList [45]).length ≤ 1000000) (hd : Lib.trimPrefix s.data.toList [45] ≠ []) (ht : Lib.trimS (Lib.trimPrefix s.data.toList [45]) digs.data.toList = []) (v : Int) (hv : Lib.parseIntB 32 s.data.toList = .ok v) :
  Calls Tryz.prog 24 #[.string s] w fun e w' => e = .returned (.tuple #[.int .i64 v, .int .i64 0]) ∧ Below w.heap.size w w' := by
 go_enter Tryz.func24, Tryz.ntmps24
 go_wp2_with first
  | (go_at_call 46; refine (Tryz.strings_TrimPrefix s ⟨#[45]⟩ w).mono ?_)
  | (go_at_call 47; refine (Tryz.strings_Trim ⟨(Lib.trimPrefix s.data.toList [45]).toArray⟩ digs _ (by simp only [ByteArray.size, List.size_toArray]; omega) (by decide) digs_ascii).mono ?_)
 rintro e w1 rfl hb
 try rw [ht]
 generalize Lib.trimPrefix s.data.toList [45] = dg at hd
 obtain ⟨c, r, rfl⟩ := List.exists_cons_of_ne_nil hd
 have Hb := Any.hidU hb
 clear hb
 go_wp2_with (go_at_call 48; refine (Tryz.strconv_ParseInt_10_at32_ok s (by omega) v hv w1).mono ?_)
 rintro e w2 ⟨rfl, hb2⟩
 have Hb2 := Any.hidU hb2
 clear hb2
 go_wp2
 go_ret2
 refine ⟨rfl, ?_⟩
 rcases Hb2.out with rfl | ⟨t, rfl⟩
 ·exact Hb.out
 ·exact Hb.out.trans ((Lib.bytesWorld_below _ _ _).mono Hb.out.size)

set_option maxHeartbeats 4000000 in
set_option maxRecDepth 100000 in
theorem number_range (s : ByteArray) (w : World) (hs : s.size ≤ 1000000) (hl : (Lib.trimPrefix s.data.toList [45]).length ≤ 1000000) (hd : Lib.trimPrefix s.data.toList [45] ≠ []) (ht : Lib.trimS (Lib.trimPrefix s.data.toList [45]) digs.data.toList = []) (hv : Lib.parseIntB 32 s.data.toList = .range) (hsz : 2 < w.heap.size) (ev : Value) (hev1 : w.cell? ⟨2, 0, none⟩ = some ev) (hev : ev = .nilIface ∨ ∃ te pe, ev = .iface te pe) :
  Calls Tryz.prog 24 #[.string s] w fun e w' => e = .returned (.tuple #[.int .i64 0, .int .i64 250]) ∧ Below w.heap.size w w' := by
 go_enter Tryz.func24, Tryz.ntmps24
 go_wp2_with first
  | (go_at_call 46; refine (Tryz.strings_TrimPrefix s ⟨#[45]⟩ w).mono ?_)
  | (go_at_call 47; refine (Tryz.strings_Trim ⟨(Lib.trimPrefix s.data.toList [45]).toArray⟩ digs _ (by simp only [ByteArray.size, List.size_toArray]; omega) (by decide) digs_ascii).mono ?_)
 rintro e w1 rfl hb
 try rw [ht]
 generalize Lib.trimPrefix s.data.toList [45] = dg at hd
 obtain ⟨c, r, rfl⟩ := List.exists_cons_of_ne_nil hd
 have hev2 : w1.cell? ⟨2, 0, none⟩ = some ev := by rw [hb.cell hsz]; exact hev1
 have Hb := Any.hidU hb
 have He := Any.hidU hev2
 clear hb hev1 hev2
 go_wp2_with (go_at_call 48; refine (Tryz.strconv_ParseInt_10_at32_range s (by omega) hv ev w1 He.out hev).mono ?_)
 rintro e w2 ⟨N, rfl, hN, hcell, hb2⟩
 have Hb2 := Any.hidU hb2
 clear hb2 hcell
 go_wp2
 go_ret2
 exact ⟨rfl, Hb.out.trans (Hb2.out.mono Hb.out.size)⟩
end Go.Proofs.YtdmemibnphcedaaGreatDoor
