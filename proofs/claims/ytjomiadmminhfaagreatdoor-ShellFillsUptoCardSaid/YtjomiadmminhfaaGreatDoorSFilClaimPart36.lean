/-
  'awake' holds, whatever there is: it is run in the second machine, in the kernel.
-/
import Derived.Test.YtjomiadmminhfaaGreatDoorSFilClaimPart27
import Derived.Test.YtjomiadmminhfaaGreatDoorSFilClaimPart32
import Derived.Test.YtjomiadmminhfaaGreatDoorSFilClaimPart34
import Derived.Test.YtjomiadmminhfaaGreatDoorSFilClaimPart35
set_option linter.unusedSimpArgs false
set_option linter.unusedVariables false
set_option maxRecDepth 10000
set_option linter.unusedSectionVars false
namespace Go.Proofs.YtjomiadmminhfaaGreatDoor
open Go.Am
open Go.RowKit (Below)

/-- the words of a line, looked for -/
def wordsRun : Nat → List UInt8 → Nat → Option (Option (List (List UInt8 × Bool)))
 | 0, _, _ => none
 | n + 1, L, p => match nxt L p with
  | .fin => some (some [])
  | .bad _ => some none
  | .wd s q _ to => (wordsRun n L to).map fun r => r.map ((s, q) :: ·)
theorem wordsRun_ok {L : List UInt8} : ∀ {n p : Nat} {r : Option (List (List UInt8 × Bool))}, wordsRun n L p = some r → WsR L p r
 | 0, _, _, h => by cases h
 | n + 1, p, r, h => by
  unfold wordsRun at h
  cases hn : nxt L p with
  | fin => rw [hn] at h; cases h; exact .fin hn
  | bad fr => rw [hn] at h; cases h; exact .bad hn
  | wd s q fr to =>
   rw [hn] at h
   simp only [Option.map_eq_some_iff] at h
   obtain ⟨r', h1, rfl⟩ := h
   exact .wd hn (wordsRun_ok h1)

def wordsC (r : Option (List (List UInt8 × Bool))) (s : ByteArray) (st : St) : Value × St :=
 if readA s ≠ 0 then (nil3 (readA s), st)
 else match r with
  | none => (nil3 250, st)
  | some [] => (nil3 0, st)
  | some (x :: l) => (.tuple #[.slice (some ⟨st.next, 0, none⟩) (l.length + 1) (l.length + 1), .slice (some ⟨st.next + 1, 0, none⟩) (l.length + 1) (l.length + 1), .int .i64 0], (st.new (.row (wsS (x :: l)) 1 false)).new (.row (wsB (x :: l)) 1 false))
theorem wordsC_eq {s : ByteArray} {st : St} {r : Option (List (List UInt8 × Bool))} (h : WsR s.data.toList 0 r) : wordsK s st = wordsC r s st := by
 unfold wordsK wordsC
 rw [wordsO_eq h]
 rfl

/-- for awake alone -/
def orcB : CallF := fun f args st =>
 if f = 19 then (match args with
  | [.string s] => if hasMax st = true then (match wordsRun 100 s.data.toList 0 with
   | some r => .ret (wordsC r s st)
   | none => .fail) else .fail
  | _ => .fail)
 else if f = 61 then (match args with
  | [.pointer _, .string s] => if s.size ≤ 1000000 ∧ s.data.toList.all (fun c => !(c == 36)) = true then .ret (.string s, st) else .fail
  | _ => .fail)
 else orc1 f args st

theorem orcB_sound : FSound Tryz.prog orcB := by
 intro f vs s Q h
 unfold orcB at h
 split at h
 ·rename_i hf
  subst hf
  split at h
  ·rename_i a
   refine ⟨⟨Tryz.f19, Tryz.func19, by kernel_rfl, by kernel_rfl⟩, ?_⟩
   split at h
   ·rename_i hc
    split at h
    ·rename_i r hr
     refine words_ok hc ?_
     rw [wordsC_eq (wordsRun_ok hr)]
     exact h
    ·exact h.elim
   ·exact h.elim
  ·exact h.elim
 ·split at h
  ·rename_i hf
   subst hf
   split at h
   ·rename_i p a
    refine ⟨⟨Tryz.f61, Tryz.func61, by kernel_rfl, by kernel_rfl⟩, ?_⟩
    split at h
    ·rename_i hc
     refine callOk_plain (v := .string a) (fun μ n => .string _) (fun B0 W0 μ w args hr hg ha => ?_) h
     have hw : ∀ q, Calls Tryz.prog 61 #[.pointer q, .string a] w fun e w' => e = .returned (.string a) ∧ Below w.heap.size w w' := fun q => filled_walk q a w hc.1 fun j hj e => by
      have := List.all_eq_true.1 hc.2 _ (Array.mem_def.1 (Array.getElem_mem (xs := a.data) hj))
      have e' : a.data[j]'hj = 36 := e
      rw [e'] at this
      exact absurd this (by decide)
     cases ha with
     | cons _ _ _ _ h1 h2 =>
      cases h2 with
      | cons _ _ _ _ h3 h4 =>
       cases h4
       cases h3
       cases h1
       ·exact hw _
       ·exact hw _
    ·exact h.elim
   ·exact h.elim
  ·exact orc1_sound f vs s Q h

theorem allOk_app {P : Program} : ∀ {t u : List (Nat × GFn)}, AllOk P t → AllOk P u → AllOk P (t ++ u)
 | [], _, _, k => k
 | _ :: _, _, h, k => ⟨h.1, allOk_app h.2 k⟩
/-- all that awake calls -/
abbrev tblA : List (Nat × GFn) := tbl ++ (150, g150) :: tblB
theorem tblA_ok : AllOk Tryz.prog tblA := allOk_app fns_ok ⟨g150_ok, fnsB_ok⟩

def T1 : Tab := { meth := fun t name => if name = "bluebell/stream.close" then (if t = 117 then some 297 else if t = 167 then some 300 else none) else none, dfr := recF T0 (fun _ _ _ => .fail) 100 recs }
theorem T1_ok : TabOk Tryz.prog T1 := fun t name f h => by
 simp only [T1] at h
 split at h
 ·rename_i hn
  subst hn
  split at h
  ·rename_i ht; subst ht; cases h; exact fun v w => rfl
  ·split at h
   ·rename_i ht; subst ht; cases h; exact fun v w => rfl
   ·cases h
 ·cases h
theorem T1_dfr : DSound Tryz.prog T1.dfr := recF_sound (by kernel_rfl) T0_ok (F := fun _ _ _ => .fail) (fun _ _ _ _ h => h.elim) 100 recs_ok

theorem awake_calls (w : World) (m : Int) (hm : w.cell? ⟨0, 0, none⟩ = some (.int .i64 m)) (h0 : 0 < w.heap.size) : Calls Tryz.prog 5 #[] w fun e w' => e = .returned (.bool true) ∧ Below w.heap.size w w' :=
 calls_closed (callO_sound (P := Tryz.prog) (by kernel_rfl) T1_ok orcB_sound (lookFn_ok tblA_ok) 1000 40 T1_dfr) (m := m) (by decide +kernel) (by kernel_rfl) w hm h0
end Go.Proofs.YtjomiadmminhfaaGreatDoor
