/-
  Rows of bytes on the second machine: a slice's value and the bytes that it shows, what the operations on it come to; laws of symbolic runs that are settled by arithmetic.
-/
import Derived.Test.YtjomiadmminhfaaGreatDoorSFilClaimPart8
set_option linter.unusedSimpArgs false
set_option linter.unusedVariables false
set_option maxRecDepth 10000
namespace Go.Am

/-! ### literals and what arithmetic settles -/
section
variable {K : Value → Prop} {A B : Prop}
theorem grpJ_tt : grpJ (.bool true) true A B = A := grpJ_yes rfl
theorem grpJ_ff : grpJ (.bool false) false A B = A := grpJ_yes rfl
theorem grpJ_tf : grpJ (.bool true) false A B = B := grpJ_no rfl
theorem grpJ_ft : grpJ (.bool false) true A B = B := grpJ_no rfl
theorem grpJ_un (w : Bool) : grpJ undef w A B = B := grpJ_no rfl
theorem condK_t : condK (.bool true) A B = A := condK_yes rfl
theorem condK_f : condK (.bool false) A B = B := condK_no rfl
theorem pt_pick (a b : Value) : popK .pick [.bool true, a, b] K = K a := pk_pickT _ _ _ rfl
theorem pf_pick (a b : Value) : popK .pick [.bool false, a, b] K = K b := pk_pickF _ _ _ rfl
theorem pt_not : popK (.un .not) [.bool true] K = K (.bool false) := pk_not _
theorem pf_not : popK (.un .not) [.bool false] K = K (.bool true) := pk_not _

theorem qt_eqI (k : IntKind) (a b : Int) (h : a = b) : popK (.bin .eql) [.int k a, .int k b] K = K (.bool true) := by rw [pj_eqI, if_pos h]
theorem qf_eqI (k : IntKind) (a b : Int) (h : a ≠ b) : popK (.bin .eql) [.int k a, .int k b] K = K (.bool false) := by rw [pj_eqI, if_neg h]
theorem qt_neqI (k : IntKind) (a b : Int) (h : a ≠ b) : popK (.bin .neq) [.int k a, .int k b] K = K (.bool true) := by rw [pj_neqI, if_neg h]
theorem qf_neqI (k : IntKind) (a b : Int) (h : a = b) : popK (.bin .neq) [.int k a, .int k b] K = K (.bool false) := by rw [pj_neqI, if_pos h]
theorem qt_lssI (k : IntKind) (a b : Int) (h : a < b) : popK (.bin .lss) [.int k a, .int k b] K = K (.bool true) := by rw [pj_lssI, if_pos h]
theorem qf_lssI (k : IntKind) (a b : Int) (h : ¬ a < b) : popK (.bin .lss) [.int k a, .int k b] K = K (.bool false) := by rw [pj_lssI, if_neg h]
theorem qt_leqI (k : IntKind) (a b : Int) (h : a ≤ b) : popK (.bin .leq) [.int k a, .int k b] K = K (.bool true) := by rw [pj_leqI, if_pos h]
theorem qf_leqI (k : IntKind) (a b : Int) (h : ¬ a ≤ b) : popK (.bin .leq) [.int k a, .int k b] K = K (.bool false) := by rw [pj_leqI, if_neg h]
theorem qt_gtrI (k : IntKind) (a b : Int) (h : b < a) : popK (.bin .gtr) [.int k a, .int k b] K = K (.bool true) := by rw [pj_gtrI, if_pos h]
theorem qf_gtrI (k : IntKind) (a b : Int) (h : ¬ b < a) : popK (.bin .gtr) [.int k a, .int k b] K = K (.bool false) := by rw [pj_gtrI, if_neg h]
theorem qt_geqI (k : IntKind) (a b : Int) (h : b ≤ a) : popK (.bin .geq) [.int k a, .int k b] K = K (.bool true) := by rw [pj_geqI, if_pos h]
theorem qf_geqI (k : IntKind) (a b : Int) (h : ¬ b ≤ a) : popK (.bin .geq) [.int k a, .int k b] K = K (.bool false) := by rw [pj_geqI, if_neg h]
theorem q_addI (a b : Int) (h1 : -9223372036854775808 ≤ a + b) (h2 : a + b ≤ 9223372036854775807) : popK (.bin .add) [.int .i64 a, .int .i64 b] K = K (.int .i64 (a + b)) := by rw [pk_addI, wrap64 h1 h2]
theorem q_subI (a b : Int) (h1 : -9223372036854775808 ≤ a - b) (h2 : a - b ≤ 9223372036854775807) : popK (.bin .sub) [.int .i64 a, .int .i64 b] K = K (.int .i64 (a - b)) := by rw [pk_subI, wrap64 h1 h2]
theorem q_rem (k : IntKind) (a b : Int) (h : b ≠ 0) : popK (.bin .rem) [.int k a, .int k b] K = K (.int k (a.tmod b)) := by
  simp [popK, pop, binV, binInt, h]
theorem q_min (k : IntKind) (a b : Int) : popK .min [.int k a, .int k b] K = K (.int k (if b < a then b else a)) := of_eq_true (eq_self _)
theorem q_max (k : IntKind) (a b : Int) : popK .max [.int k a, .int k b] K = K (.int k (if b > a then b else a)) := of_eq_true (eq_self _)
end

theorem get_put_same (s : St) (i : Nat) (o : Option AObj) : (s.put i o).get i = o := by rw [St.get_put, if_pos rfl]
theorem get_put_ne (s : St) (i j : Nat) (o : Option AObj) (h : i ≠ j) : (s.put i o).get j = s.get j := by rw [St.get_put, if_neg h]
theorem get_new_same (s : St) (o : AObj) : (s.new o).get s.next = some o := by rw [St.get_new, if_pos rfl]
theorem get_new_ne (s : St) (j : Nat) (o : AObj) (h : s.next ≠ j) : (s.new o).get j = s.get j := by rw [St.get_new, if_neg h]

/-! ### a value's cells -/
theorem cells_agg (l : List Value) : cellsOf (.agg l.toArray) = l := rfl
theorem cells_int (k : IntKind) (n : Int) : cellsOf (.int k n) = [.int k n] := rfl
theorem cells_str (s : ByteArray) : cellsOf (.string s) = [.string s] := rfl
theorem cells_bool (b : Bool) : cellsOf (.bool b) = [.bool b] := rfl
theorem cells_slice (a : Option Addr) (n c : Nat) : cellsOf (.slice a n c) = [.slice a n c] := rfl
theorem cells_ptr (a : Option Addr) : cellsOf (.pointer a) = [.pointer a] := rfl
theorem cells_map (a : Option Nat) : cellsOf (.map a) = [.map a] := rfl
theorem cells_iface (t : TypeId) (v : Value) : cellsOf (.iface t v) = [.iface t v] := rfl
theorem cells_nif : cellsOf .nilIface = [.nilIface] := rfl
theorem one_int (k : IntKind) (n : Int) : oneCell (.int k n) = true := rfl
theorem one_str (s : ByteArray) : oneCell (.string s) = true := rfl
theorem one_bool (b : Bool) : oneCell (.bool b) = true := rfl
theorem one_slice (a : Option Addr) (n c : Nat) : oneCell (.slice a n c) = true := rfl
theorem one_ptr (a : Option Addr) : oneCell (.pointer a) = true := rfl
theorem one_map (a : Option Nat) : oneCell (.map a) = true := rfl
theorem one_iface (t : TypeId) (v : Value) : oneCell (.iface t v) = true := rfl
theorem one_nif : oneCell .nilIface = true := rfl

theorem one_eqSlice (a : Option Addr) (n c : Nat) : cellEq (.slice a n c) (.slice a n c) = true := by simp [cellEq]
theorem one_eqStr (a : ByteArray) : cellEq (.string a) (.string a) = true := by simp [cellEq]
theorem one_eqInt (k : IntKind) (a : Int) : cellEq (.int k a) (.int k a) = true := by simp [cellEq]
theorem one_eqBool (a : Bool) : cellEq (.bool a) (.bool a) = true := by simp [cellEq]
theorem one_eqPtr (a : Option Addr) : cellEq (.pointer a) (.pointer a) = true := by simp [cellEq]
theorem one_eqMap (a : Option Nat) : cellEq (.map a) (.map a) = true := by simp [cellEq]

/-- a map behind a key's deletion -/
def delK (r : Option (Option (Nat × Value))) (es : List (Value × Value × Nat)) (c id : Nat) (s : St) (W : Value → St → Prop) : Prop :=
  match r with
  | some (some (i, _)) => W (.tuple #[]) (s.put id (some (.map (es.eraseIdx i) c)))
  | some none => W (.tuple #[]) s
  | none => False
theorem wk_del_ {s : St} {W : Value → St → Prop} (kk : KeyK) (r : Nat) (k : Value) (hk : keyOk kk k = true) : wopK (.delete kk) [.map (some r), k] s W = getK (s.get r) fun ob => mapK ob fun es c => delK (findV kk k es 0) es c r s W := by
  simp only [wopK, wop]
  cases s.get r with
  | none => rfl
  | some ob =>
    cases ob with
    | map es c =>
      simp only [getK, mapK, hk, if_true, delK]
      cases findV kk k es 0 with
      | none => rfl
      | some x => cases x <;> rfl
    | _ => simp [getK, mapK]
theorem wk_delS {s : St} {W : Value → St → Prop} (r : Nat) (k : ByteArray) : wopK (.delete .str) [.map (some r), .string k] s W = getK (s.get r) fun ob => mapK ob fun es c => delK (findV .str (.string k) es 0) es c r s W := wk_del_ _ _ _ rfl
theorem wk_delI {s : St} {W : Value → St → Prop} (r : Nat) (ik : IntKind) (k : Int) : wopK (.delete .int) [.map (some r), .int ik k] s W = getK (s.get r) fun ob => mapK ob fun es c => delK (findV .int (.int ik k) es 0) es c r s W := wk_del_ _ _ _ rfl
theorem delK_hit {kk : KeyK} {k : Value} {es : List (Value × Value × Nat)} {i : Nat} {v : Value} (h : findV kk k es 0 = some (some (i, v))) (c id : Nat) (s : St) (W : Value → St → Prop) : delK (findV kk k es 0) es c id s W = W (.tuple #[]) (s.put id (some (.map (es.eraseIdx i) c))) := by rw [h]; rfl
@[congr] theorem delK_cg {r r' : Option (Option (Nat × Value))} {es : List (Value × Value × Nat)} {c id : Nat} {s s' : St} {W : Value → St → Prop} {t0 : Nat} (h0 : cgT = t0) (h1 : r = r') (h2 : s = s') : delK r es c id s W = delK r' es c id s' W := by rw [h1, h2]

theorem lputs_5 (v a b c d e f : Value) (l : List Value) : lputs (a :: b :: c :: d :: e :: f :: l) 5 [v] = a :: b :: c :: d :: e :: v :: l := rfl
theorem lputs_6 (v a b c d e f g : Value) (l : List Value) : lputs (a :: b :: c :: d :: e :: f :: g :: l) 6 [v] = a :: b :: c :: d :: e :: f :: v :: l := rfl

theorem lputs_z (l vs : List Value) : lputs l 0 vs = vs ++ l.drop vs.length := by simp [lputs]
theorem lputs_s (a : Value) (l vs : List Value) (n : Nat) : lputs (a :: l) (n + 1) vs = a :: lputs l n vs := by
  simp [lputs, Nat.add_right_comm]

/-- an aggregate out of its parts -/
def fillK (cells : List Value) (ps : List (Nat × Nat)) (vs : List Value) (K : Value → Prop) : Prop :=
  match fillL cells ps vs with
  | some cs => K (.agg cs.toArray)
  | none => False
theorem pk_build (z : List Value) (ps : List (Nat × Nat)) (vs : List Value) (K : Value → Prop) : popK (.build z ps) vs K = fillK z ps vs K := by
  simp only [popK, pop, fillK]
  cases fillL z ps vs <;> rfl
theorem fillK_nil (z : List Value) (K : Value → Prop) : fillK z [] [] K = K (.agg z.toArray) := of_eq_true (eq_self _)
theorem fillK_cons (z : List Value) (o n : Nat) (ps : List (Nat × Nat)) (v : Value) (vs : List Value) (K : Value → Prop) : fillK z ((o, n) :: ps) (v :: vs) K = (((cellsOf v).length = n ∧ o + n ≤ z.length) ∧ fillK (lputs z o (cellsOf v)) ps vs K) := by
  unfold fillK
  simp only [fillL]
  by_cases h : (cellsOf v).length = n ∧ o + n ≤ z.length
  · rw [if_pos h]; simp only [h, and_self, true_and]
  · rw [if_neg h]; simp only [h, false_and]
@[congr] theorem fillK_cg {z z' : List Value} {ps : List (Nat × Nat)} {vs : List Value} {K : Value → Prop} {t0 : Nat} (h0 : cgT = t0) (h1 : z = z') : fillK z ps vs K = fillK z' ps vs K := by rw [h1]

/-! ### a map gone through -/
theorem wk_range {s : St} {W : Value → St → Prop} (r : Nat) : wopK (.range false) [.map (some r)] s W = getK (s.get r) fun ob => mapK ob fun es c => W (.pointer (some ⟨s.next, 0, none⟩)) (s.new (.mapIter (some r) c [] c)) := by
  simp only [wopK, wop]
  cases s.get r with
  | none => rfl
  | some ob => cases ob <;> rfl

def unseen (seen : List Nat) (es : List (Value × Value × Nat)) : List (Value × Value × Nat) := es.filter fun e => !seen.contains e.2.2

theorem next_end {s : St} {i m c : Nat} {seen : List Nat} {es : List (Value × Value × Nat)} (hi : s.get i = some (.mapIter (some m) c seen c)) (hm : s.get m = some (.map es c)) (h : unseen seen es = []) {W : Value → St → Prop} (hW : W (.tuple #[.bool false]) s) :
    nextK false [.pointer (some ⟨i, 0, none⟩)] s W := by
  unfold unseen at h
  simp only [nextK, nextV, hi, hm, ne_eq, not_true_eq_false, Bool.false_eq_true, or_self, if_false, h]
  exact hW

theorem next_step {s : St} {i m c : Nat} {seen : List Nat} {es : List (Value × Value × Nat)} (hi : s.get i = some (.mapIter (some m) c seen c)) (hm : s.get m = some (.map es c)) (h : unseen seen es ≠ []) {W : Value → St → Prop}
    (hW : ∀ e, e ∈ unseen seen es → W (.tuple #[.bool true, e.1, e.2.1]) (s.put i (some (.mapIter (some m) c (seen ++ [e.2.2]) c)))) :
    nextK false [.pointer (some ⟨i, 0, none⟩)] s W := by
  unfold unseen at h hW
  simp only [nextK, nextV, hi, hm, ne_eq, not_true_eq_false, Bool.false_eq_true, or_self, if_false]
  generalize hl : es.filter (fun e => !seen.contains e.2.2) = l at h hW
  cases l with
  | nil => exact absurd rfl h
  | cons x l =>
    refine ⟨by simp, fun k hk => ?_⟩
    have : (x :: l)[k]? = some ((x :: l)[k]'hk) := List.getElem?_eq_getElem hk
    simp only [this]
    exact hW _ (List.getElem_mem hk)

theorem find_stamp : ∀ {es : List (Value × Value × Nat)} {e : Value × Value × Nat} (_ : (es.map (·.2.2)).Nodup) (_ : e ∈ es), es.find? (fun x => x.2.2 == e.2.2) = some e
  | [], _, _, he => by cases he
  | x :: es, e, hn, he => by
    simp only [List.map_cons, List.nodup_cons] at hn
    rcases List.mem_cons.1 he with rfl | he
    · simp
    · have : x.2.2 ≠ e.2.2 := fun h => hn.1 (h ▸ List.mem_map_of_mem he)
      rw [List.find?_cons_of_neg (by simpa using this)]
      exact find_stamp hn.2 he

theorem entry_at {s : St} {i m c : Nat} {seen : List Nat} {es : List (Value × Value × Nat)} {e : Value × Value × Nat} (hi : s.get i = some (.mapIter (some m) c (seen ++ [e.2.2]) c)) (hm : s.get m = some (.map es c)) (hn : (es.map (·.2.2)).Nodup) (he : e ∈ es) (K : Value → Prop) :
    ropK .entry [.pointer (some ⟨i, 0, none⟩)] s K = K (.tuple #[e.1, e.2.1]) := by
  have hf := find_stamp hn he
  simp only [ropK, rop, hi, hm, and_self, if_true, List.getLast?_append, List.getLast?_singleton, Option.or_some, Option.some_or, hf, Option.map_some]

theorem filter_less {α : Type} {p q : α → Bool} : ∀ {l : List α} {x : α}, (∀ y, q y = true → p y = true) → x ∈ l → p x = true → q x = false → (l.filter q).length < (l.filter p).length
  | [], _, _, h, _, _ => by cases h
  | y :: l, x, hpq, hx, h1, h2 => by
    have hle : (l.filter q).length ≤ (l.filter p).length := by
      clear hx
      induction l with
      | nil => simp
      | cons z l ih =>
        simp only [List.filter_cons]
        cases hq : q z with
        | true => rw [hpq z hq]; simpa using ih
        | false => cases p z <;> simp <;> omega
    rcases List.mem_cons.1 hx with rfl | hx
    · simp only [List.filter_cons, h1, h2, if_true, Bool.false_eq_true, if_false, List.length_cons]
      omega
    · have := filter_less hpq hx h1 h2
      simp only [List.filter_cons]
      cases hq : q y with
      | true => rw [hpq y hq]; simpa using this
      | false => cases p y <;> simp <;> omega

theorem unseen_less {seen : List Nat} {es : List (Value × Value × Nat)} {e : Value × Value × Nat} (he : e ∈ unseen seen es) : (unseen (seen ++ [e.2.2]) es).length < (unseen seen es).length := by
  unfold unseen at *
  obtain ⟨h1, h2⟩ := List.mem_filter.1 he
  refine filter_less (x := e) (fun y hy => ?_) h1 h2 (by simp)
  simp only [Bool.not_eq_true', List.contains_eq_mem, List.mem_append, List.mem_singleton, not_or, decide_eq_false_iff_not] at hy ⊢
  exact hy.1

/-- how much of a map is still to come -/
def left (es : List (Value × Value × Nat)) (i : Nat) (s : St) : Nat :=
  match s.get i with
  | some (.mapIter _ _ seen _) => (unseen seen es).length
  | _ => 0

theorem pk_convI (k j : IntKind) (n : Int) (K : Value → Prop) : popK (.convInt k) [.int j n] K = K (.int k (wrapF k n)) := of_eq_true (eq_self _)

/-- cells out of their parts -/
def fillC (cells : List Value) (ps : List (Nat × Nat)) (vs : List Value) (K : List Value → Prop) : Prop :=
  match fillL cells ps vs with
  | some cs => K cs
  | none => False
theorem fillC_nil (z : List Value) (K : List Value → Prop) : fillC z [] [] K = K z := of_eq_true (eq_self _)
theorem fillC_cons (z : List Value) (o n : Nat) (ps : List (Nat × Nat)) (v : Value) (vs : List Value) (K : List Value → Prop) : fillC z ((o, n) :: ps) (v :: vs) K = (((cellsOf v).length = n ∧ o + n ≤ z.length) ∧ fillC (lputs z o (cellsOf v)) ps vs K) := by
  unfold fillC
  simp only [fillL]
  by_cases h : (cellsOf v).length = n ∧ o + n ≤ z.length
  · rw [if_pos h]; simp only [h, and_self, true_and]
  · rw [if_neg h]; simp only [h, false_and]
@[congr] theorem fillC_cg {z z' : List Value} {ps : List (Nat × Nat)} {vs : List Value} {K : List Value → Prop} {t0 : Nat} (h0 : cgT = t0) (h1 : z = z') : fillC z ps vs K = fillC z' ps vs K := by rw [h1]
theorem wk_sliceLit (cells : List Value) (len : Nat) (p : Nat × Nat) (ps : List (Nat × Nat)) (vs : List Value) {s : St} {W : Value → St → Prop} : wopK (.sliceLit cells len (p :: ps)) vs s W = fillC cells (p :: ps) vs fun cs => W (.slice (some ⟨s.next, 0, none⟩) len len) (s.new (.row cs 0 false)) := by
  simp only [wopK, wop, fillC]
  cases fillL cells (p :: ps) vs <;> rfl

/-- a first element of two cells -/
theorem append2_nil {s : St} {b : Nat} {x y : Value} {g : Nat} {ro : Bool} (hb : s.get b = some (.row [x, y] g ro)) (hx : oneCell x = true) (hy : oneCell y = true) {W : Value → St → Prop} (hW : W (.slice (some ⟨s.next, 0, none⟩) 1 1) (s.new (.row [x, y] 2 false))) :
    wopK (.append 2 40) [.slice none 0 0, .slice (some ⟨b, 0, none⟩) 1 1] s W := by
  have h1 : s.srcCells 2 (.slice (some ⟨b, 0, none⟩) 1 1) = some [x, y] := by
    simp only [St.srcCells, St.cells, hb]
    rfl
  have h2 : [x, y].all oneCell = true := by simp [hx, hy]
  simp only [wopK, wop, appendV, srcLen, h1, h2]
  exact hW

/-! ### bytes -/
def u8v (b : UInt8) : Value := .int .u8 b.toNat

theorem u8s_map (l : List UInt8) : u8s (l.map u8v) = some l := by
  induction l with
  | nil => rfl
  | cons b l ih => simp [u8v, u8s] at *; simp [ih]

theorem all_u8 (l : List UInt8) : (l.map u8v).all oneCell = true := by
  simp [List.all_eq_true, u8v, oneCell]

/-- a slice of bytes: what it shows -/
def Bys (st : St) (v : Value) (l : List UInt8) : Prop :=
  (v = .slice none 0 0 ∧ l = []) ∨
  (∃ b o cap cs g ro, v = .slice (some ⟨b, o, none⟩) l.length cap ∧ l.length ≤ cap ∧ st.get b = some (.row cs g ro) ∧ (g = 0 ∨ g = 1) ∧ o + l.length ≤ cs.length ∧ (cs.drop o).take l.length = l.map u8v) ∨
  ∃ a : Addr, v = .slice (some a) 0 0 ∧ l = []

/-- a slice whose elements take a cell each: what it shows -/
def Cel (st : St) (v : Value) (cs : List Value) : Prop :=
  (v = .slice none 0 0 ∧ cs = []) ∨
  (∃ b o cap all g ro, v = .slice (some ⟨b, o, none⟩) cs.length cap ∧ st.get b = some (.row all g ro) ∧ o + cs.length ≤ all.length ∧ (all.drop o).take cs.length = cs) ∨
  ∃ ad : Addr, v = .slice (some ad) 0 0 ∧ cs = []

/-- where a slice lies: 0: nowhere; else its row's number and one -/
def ow : Value → Nat
  | .slice (some a) _ _ => a.block + 1
  | _ => 0

/-- such a one that its holder may let grow -/
def Gro (st : St) (v : Value) (l : List UInt8) : Prop :=
  (v = .slice none 0 0 ∧ l = []) ∨
  (∃ b o cap cs, v = .slice (some ⟨b, o, none⟩) l.length cap ∧ l.length ≤ cap ∧ st.get b = some (.row cs 1 false) ∧ o + l.length ≤ cs.length ∧ (cs.drop o).take l.length = l.map u8v) ∨
  ∃ b o cs ro, v = .slice (some ⟨b, o, none⟩) 0 0 ∧ l = [] ∧ st.get b = some (.row cs 0 ro) ∧ o ≤ cs.length

section
variable {st st' : St} {v u : Value} {l m : List UInt8} {K : Value → Prop}

theorem Gro.bys (h : Gro st v l) : Bys st v l := by
  rcases h with h | ⟨b, o, cap, cs, h1, h2, h3, h4, h5⟩ | ⟨b, o, cs, ro, h1, h2, h3, h4⟩
  · exact .inl h
  · exact .inr (.inl ⟨b, o, cap, cs, 1, false, h1, h2, h3, .inr rfl, h4, h5⟩)
  · exact .inr (.inr ⟨_, h1, h2⟩)

theorem Gro.nil (st : St) : Gro st (.slice none 0 0) [] := .inl ⟨rfl, rfl⟩
theorem Bys.nil (st : St) : Bys st (.slice none 0 0) [] := .inl ⟨rfl, rfl⟩

theorem Gro.keep (h : Gro st v l) (hb : ∀ i, i + 1 = ow v → st'.get i = st.get i) : Gro st' v l := by
  rcases h with h | ⟨b, o, cap, cs, h1, h2, h3, h4, h5⟩ | ⟨b, o, cs, ro, h1, h2, h3, h4⟩
  · exact .inl h
  · subst h1; exact .inr (.inl ⟨b, o, cap, cs, rfl, h2, (hb b rfl).trans h3, h4, h5⟩)
  · subst h1; exact .inr (.inr ⟨b, o, cs, ro, rfl, h2, (hb b rfl).trans h3, h4⟩)

theorem Bys.keep (h : Bys st v l) (hb : ∀ i, i + 1 = ow v → st'.get i = st.get i) : Bys st' v l := by
  rcases h with h | ⟨b, o, cap, cs, g, ro, h1, h2, h3, h4, h5, h6⟩ | h
  · exact .inl h
  · subst h1; exact .inr (.inl ⟨b, o, cap, cs, g, ro, rfl, h2, (hb b rfl).trans h3, h4, h5, h6⟩)
  · exact .inr (.inr h)

theorem Bys.cap (h : Bys st v l) : ∃ a cap, v = .slice a l.length cap := by
  rcases h with ⟨h, h'⟩ | ⟨b, o, cap, cs, g, ro, h1, h2, h3, h4, h5, h6⟩ | ⟨ad, h, h'⟩
  · subst h h'; exact ⟨none, 0, rfl⟩
  · exact ⟨_, _, h1⟩
  · subst h h'; exact ⟨_, 0, rfl⟩

theorem Cel.keep {cs : List Value} (h : Cel st v cs) (hb : ∀ i, i + 1 = ow v → st'.get i = st.get i) : Cel st' v cs := by
  rcases h with h | ⟨b, o, cap, all, g, ro, h1, h3, h5, h6⟩ | h
  · exact .inl h
  · subst h1; exact .inr (.inl ⟨b, o, cap, all, g, ro, rfl, (hb b rfl).trans h3, h5, h6⟩)
  · exact .inr (.inr h)
theorem len_cel {cs : List Value} (h : Cel st v cs) (K : Value → Prop) : popK .lenSl [v] K = K (.int .i64 cs.length) := by
  rcases h with ⟨h, h'⟩ | ⟨b, o, cap, all, g, ro, h1, h3, h5, h6⟩ | ⟨ad, h, h'⟩
  · subst h h'; rfl
  · subst h1; rw [pk_lenSl]
  · subst h h'; rfl

theorem len_bys (h : Bys st v l) (K : Value → Prop) : popK .lenSl [v] K = K (.int .i64 l.length) := by
  obtain ⟨a, cap, rfl⟩ := h.cap
  rw [pk_lenSl]

def bptr (v : Value) (i : Int) : Value :=
  match v with
  | .slice (some a) _ _ => .pointer (some (addA a (i.toNat * 1)))
  | _ => undef

theorem idx_bys (h : Bys st v l) (k : IntKind) (i : Int) (K : Value → Prop) (h0 : 0 ≤ i) (h1 : i < (l.length : Int)) : popK (.indexAddr 1) [v, .int k i] K = K (bptr v i) := by
  rcases h with ⟨h, h'⟩ | ⟨b, o, cap, cs, g, ro, q1, q2, q3, q4, q5, q6⟩ | ⟨ad, h, h'⟩
  · subst h h'; simp at h1; omega
  rotate_left
  · subst h h'; simp at h1; omega
  · subst q1
    simp only [popK, pop, bptr]
    rw [if_pos ⟨h0, h1⟩]

theorem load_bys (h : Bys st v l) (i : Int) (K : Value → Prop) (h0 : 0 ≤ i) (h1 : i < (l.length : Int)) : ropK .load1 [bptr v i] st K = K (u8v (l.getD i.toNat 0)) := by
  rcases h with ⟨h, h'⟩ | ⟨b, o, cap, cs, g, ro, q1, q2, q3, q4, q5, q6⟩ | ⟨ad, h, h'⟩
  · subst h h'; simp at h1; omega
  rotate_left
  · subst h h'; simp at h1; omega
  · subst q1
    have hi : i.toNat < l.length := by omega
    have e : cs[o + i.toNat]? = some (u8v (l.getD i.toNat 0)) := by
      have := congrArg (fun x => x[i.toNat]?) q6
      simp only [List.getElem?_take_of_lt hi, List.getElem?_drop, List.getElem?_map] at this
      rw [this, List.getElem?_eq_getElem hi]
      simp [List.getD, hi]
    simp only [bptr, addA]
    have hb : ∀ (a : Addr), a.block = b → a.off = o + i.toNat → ropK .load1 [.pointer (some a)] st K = K (u8v (l.getD i.toNat 0)) := by
      intro a e1 e2
      simp only [ropK, rop, e1, e2, q3, e]
    split
    · rename_i hz
      refine hb _ rfl ?_
      have : i.toNat = 0 := by omega
      simp [this]
    · refine hb _ rfl ?_
      simp

theorem idx_cel {cs : List Value} (h : Cel st v cs) (k : IntKind) (i : Int) (K : Value → Prop) (h0 : 0 ≤ i) (h1 : i < (cs.length : Int)) : popK (.indexAddr 1) [v, .int k i] K = K (bptr v i) := by
  rcases h with ⟨h, h'⟩ | ⟨b, o, cap, all, g, ro, q1, q3, q5, q6⟩ | ⟨ad, h, h'⟩
  · subst h h'; simp at h1; omega
  rotate_left
  · subst h h'; simp at h1; omega
  · subst q1
    simp only [popK, pop, bptr]
    rw [if_pos ⟨h0, h1⟩]

theorem load_cel {cs : List Value} (h : Cel st v cs) (i : Int) (K : Value → Prop) (h0 : 0 ≤ i) (h1 : i < (cs.length : Int)) : ropK .load1 [bptr v i] st K = K (cs.getD i.toNat undef) := by
  rcases h with ⟨h, h'⟩ | ⟨b, o, cap, all, g, ro, q1, q3, q5, q6⟩ | ⟨ad, h, h'⟩
  · subst h h'; simp at h1; omega
  rotate_left
  · subst h h'; simp at h1; omega
  · subst q1
    have hi : i.toNat < cs.length := by omega
    have e : all[o + i.toNat]? = some (cs.getD i.toNat undef) := by
      have := congrArg (fun x => x[i.toNat]?) q6
      simp only [List.getElem?_take_of_lt hi, List.getElem?_drop] at this
      rw [this, List.getElem?_eq_getElem hi]
      simp [List.getD, hi]
    simp only [bptr, addA]
    have hb : ∀ (a : Addr), a.block = b → a.off = o + i.toNat → ropK .load1 [.pointer (some a)] st K = K (cs.getD i.toNat undef) := by
      intro a e1 e2
      simp only [ropK, rop, e1, e2, q3, e]
    split
    · rename_i hz
      refine hb _ rfl ?_
      have : i.toNat = 0 := by omega
      simp [this]
    · refine hb _ rfl ?_
      simp

def bhi (v : Value) (n : Nat) : Value :=
  match v with
  | .slice a _ cap => .slice a n cap
  | v => v

theorem slhi_bys (h : Bys st v l) (k : IntKind) (n : Int) (K : Value → Prop) (h0 : 0 ≤ n) (h1 : n ≤ (l.length : Int)) : ropK (.sl 1 false true) [v, .int k n] st K = K (bhi v n.toNat) := by
  rcases h with ⟨h, h'⟩ | ⟨b, o, cap, cs, g, ro, q1, q2, q3, q4, q5, q6⟩ | ⟨ad, h, h'⟩
  · subst h h'
    simp at h1
    have : n = 0 := by omega
    subst this
    rfl
  · subst q1
    have hb : bound 0 cap (.int k n) = some n.toNat := by simp only [bound]; rw [if_pos ⟨by simpa using h0, by omega⟩]
    simp only [ropK, rop, q3, bounds, hb, Option.map_some, bhi]
    by_cases hc : cap = 0
    · rw [if_pos hc]; rfl
    rw [if_neg hc, if_pos q4]
    simp only [Option.map_some, Nat.sub_zero, addA, Nat.zero_mul, if_true]
    split <;> rfl
  · subst h h'
    simp at h1
    have : n = 0 := by omega
    subst this
    rfl

theorem bhi_bys (h : Bys st v l) (n : Nat) (h1 : n ≤ l.length) : Bys st (bhi v n) (l.take n) := by
  rcases h with ⟨h, h'⟩ | ⟨b, o, cap, cs, g, ro, q1, q2, q3, q4, q5, q6⟩ | ⟨ad, h, h'⟩
  · subst h h'
    simp at h1
    subst h1
    exact .inl ⟨rfl, rfl⟩
  rotate_left
  · subst h h'
    simp at h1
    subst h1
    exact .inr (.inr ⟨_, rfl, rfl⟩)
  · subst q1
    refine .inr (.inl ⟨b, o, cap, cs, g, ro, ?_, ?_, q3, q4, ?_, ?_⟩)
    · simp only [bhi, List.length_take, Nat.min_eq_left h1]
    · simp only [List.length_take]; omega
    · simp only [List.length_take]; omega
    · have := congrArg (List.take n) q6
      rw [List.take_take, Nat.min_eq_left h1] at this
      rw [List.length_take, Nat.min_eq_left h1, this, List.map_take]
theorem ow_bhi (v : Value) (n : Nat) : ow (bhi v n) = ow v := by
  unfold bhi
  split
  · rename_i a _ _; cases a <;> rfl
  · rfl

def blo (v : Value) (n : Nat) : Value :=
  match v with
  | .slice (some a) len cap => .slice (some (if cap = n then a else addA a (n * 1))) (len - n) (cap - n)
  | v => v

theorem sllo_bys (h : Bys st v l) (k : IntKind) (n : Int) (K : Value → Prop) (h0 : 0 ≤ n) (h1 : n ≤ (l.length : Int)) : ropK (.sl 1 true false) [v, .int k n] st K = K (blo v n.toNat) := by
  rcases h with ⟨h, h'⟩ | ⟨b, o, cap, cs, g, ro, q1, q2, q3, q4, q5, q6⟩ | ⟨ad, h, h'⟩
  · subst h h'
    simp at h1
    have : n = 0 := by omega
    subst this
    rfl
  rotate_left
  · subst h h'
    simp at h1
    have : n = 0 := by omega
    subst this
    rfl
  · subst q1
    have hb : bound 0 l.length (.int k n) = some n.toNat := by simp only [bound]; rw [if_pos ⟨by simpa using h0, by omega⟩]
    simp only [ropK, rop, q3, bounds, hb, Option.map_some, blo]
    by_cases hc : cap = 0
    · have hn : n.toNat = 0 := by omega
      rw [if_pos hc, if_pos (by omega)]
    rw [if_neg hc, if_pos q4]

theorem ow_blo (v : Value) (n : Nat) : ow (blo v n) = ow v := by
  unfold blo
  split
  · rename_i a _ _
    simp only [ow]
    split
    · rfl
    · simp only [addA]; split <;> rfl
  · rfl

theorem blo_gro (h : Gro st v l) (n : Nat) (h1 : n ≤ l.length) : Gro st (blo v n) (l.drop n) := by
  rcases h with ⟨h, h'⟩ | ⟨b, o, cap, cs, q1, q2, q3, q5, q6⟩ | ⟨b, o, cs, ro, q1, q2, q3, q4⟩
  · subst h h'
    simp at h1
    subst h1
    exact .inl ⟨rfl, rfl⟩
  · subst q1
    have hd : ((cs.drop (o + n)).take (l.length - n)) = (l.drop n).map u8v := by
      have := congrArg (List.drop n) q6
      rw [List.drop_take, List.drop_drop] at this
      rw [this, List.map_drop]
    by_cases hc : cap = n
    · refine .inr (.inl ⟨b, o, cap - n, cs, ?_, ?_, q3, ?_, ?_⟩)
      · simp only [blo, hc, if_true, List.length_drop]
      · simp only [List.length_drop]; omega
      · simp only [List.length_drop]; omega
      · have : l.length = n := by omega
        have e : l.drop n = [] := by rw [← this]; exact List.drop_length
        rw [e]
        rfl
    · refine .inr (.inl ⟨b, o + n, cap - n, cs, ?_, ?_, q3, ?_, ?_⟩)
      · simp only [blo, hc, if_false, List.length_drop, Nat.mul_one, addA]
        split
        · rename_i hn; subst hn; rfl
        · rfl
      · simp only [List.length_drop]; omega
      · simp only [List.length_drop]; omega
      · simpa [List.length_drop] using hd
  · subst q1 q2
    simp at h1
    subst h1
    exact .inr (.inr ⟨b, o, cs, ro, rfl, rfl, q3, q4⟩)

theorem blo_bys (h : Bys st v l) (n : Nat) (h1 : n ≤ l.length) : Bys st (blo v n) (l.drop n) := by
  rcases h with ⟨h, h'⟩ | ⟨b, o, cap, cs, g, ro, q1, q2, q3, q4, q5, q6⟩ | ⟨ad, h, h'⟩
  · subst h h'
    simp at h1
    subst h1
    exact .inl ⟨rfl, rfl⟩
  rotate_left
  · subst h h'
    simp at h1
    subst h1
    exact .inr (.inr ⟨_, rfl, rfl⟩)
  · subst q1
    have hd : ((cs.drop (o + n)).take (l.length - n)) = (l.drop n).map u8v := by
      have := congrArg (List.drop n) q6
      rw [List.drop_take, List.drop_drop] at this
      rw [this, List.map_drop]
    by_cases hc : cap = n
    · refine .inr (.inl ⟨b, o, cap - n, cs, g, ro, ?_, ?_, q3, q4, ?_, ?_⟩)
      · simp only [blo, hc, if_true, List.length_drop]
      · simp only [List.length_drop]; omega
      · simp only [List.length_drop]; omega
      · have : l.length = n := by omega
        have e : l.drop n = [] := by rw [← this]; exact List.drop_length
        rw [e]
        rfl
    · refine .inr (.inl ⟨b, o + n, cap - n, cs, g, ro, ?_, ?_, q3, q4, ?_, ?_⟩)
      · simp only [blo, hc, if_false, List.length_drop, Nat.mul_one, addA]
        split
        · rename_i hn; subst hn; rfl
        · rfl
      · simp only [List.length_drop]; omega
      · simp only [List.length_drop]; omega
      · simpa [List.length_drop] using hd

theorem Bys.src (h : Bys st u m) : srcLen u = some m.length ∧ st.srcCells 1 u = some (m.map u8v) := by
  rcases h with ⟨h, h'⟩ | ⟨b, o, cap, cs, g, ro, q1, q2, q3, q4, q5, q6⟩ | ⟨ad, h, h'⟩
  · subst h h'; exact ⟨rfl, rfl⟩
  · subst q1
    refine ⟨rfl, ?_⟩
    simp only [St.srcCells, St.cells, q3, Nat.mul_one]
    by_cases h0 : m.length = 0
    · rw [if_pos h0, List.eq_nil_of_length_eq_zero h0]; rfl
    rw [if_neg h0, if_pos q5, q6]
  · subst h h'; exact ⟨rfl, rfl⟩

/-- what comes of an append: a slice that shows both, in its old row or in a new one; all else is as it was -/
theorem append_go (hd : Gro st v l) (hs : Bys st u m) (hsz : l.length + m.length ≤ 1099511627776) {W : Value → St → Prop}
    (h : ∀ v' st', Gro st' v' (l ++ m) → (ow v' = ow v ∨ (ow v' = st.next + 1 ∧ st.next + 1 ≤ st'.next)) → st.next ≤ st'.next → (∀ i, i + 1 ≠ ow v → i < st.next → st'.get i = st.get i) → W v' st') :
    wopK (.append 1 1) [v, u] st W := by
  obtain ⟨s1, s2⟩ := hs.src
  simp only [wopK, wop, appendV, s1, s2]
  by_cases hm : m = []
  · subst hm
    simp only [List.length_nil, if_true]
    obtain ⟨a, cap, rfl⟩ := hd.bys.cap
    simp only
    refine h _ st ?_ (.inl rfl) (Nat.le_refl _) (fun _ _ _ => rfl)
    simpa using hd
  · have hm0 : m.length ≠ 0 := fun e => hm (List.eq_nil_of_length_eq_zero e)
    simp only [hm0, if_false, all_u8, Nat.one_ne_zero, not_true_eq_false, or_self]
    have fin : ∀ (st0 : St), st0.next = st.next → (∀ i, i + 1 ≠ ow v → st0.get i = st.get i) → W (.slice (some ⟨st.next, 0, none⟩) (l.length + m.length) (l.length + m.length)) (st0.new (.row (l.map u8v ++ m.map u8v) 1 false)) := by
      intro st0 e1 e2
      refine h _ _ ?_ (.inr ⟨rfl, ?_⟩) ?_ (fun i hi hlt => ?_)
      · refine .inr (.inl ⟨st.next, 0, l.length + m.length, l.map u8v ++ m.map u8v, ?_, ?_, ?_, ?_, ?_⟩)
        · simp
        · simp
        · rw [← e1, St.get_new, if_pos rfl]
        · simp
        · rw [List.map_append, List.drop_zero, List.take_of_length_le (by simp)]
      · show st.next + 1 ≤ st0.next + 1; omega
      · show st.next ≤ st0.next + 1; omega
      · rw [St.get_new, if_neg (by omega), e2 i hi]
    rcases hd with ⟨q, q'⟩ | ⟨b, o, cap, cs, q1, q2, q3, q5, q6⟩ | ⟨b, o, cs, ro, q1, q2, q3, q4⟩
    · subst q q'
      simp only
      rw [if_pos (by simp at hsz; omega)]
      have := fin st rfl (fun _ _ => rfl)
      simpa [St.grow] using this
    · subst q1
      simp only
      rw [if_pos (by omega)]
      have hc : st.cells ⟨b, o, none⟩ (l.length * 1) = some (l.map u8v) := by
        simp only [St.cells, q3, Nat.mul_one]
        rw [if_pos q5, q6]
      simp only [q3, hc, Nat.one_ne_zero, if_false, true_and]
      rw [if_pos (by omega)]
      have := fin (st.put b none) rfl (fun i hi => by rw [St.get_put, if_neg (fun e => hi (by show i + 1 = b + 1; omega))])
      simpa [St.grow] using this
    · subst q1 q2
      simp only
      rw [if_pos (by simp at hsz; omega)]
      have hc : st.cells ⟨b, o, none⟩ (0 * 1) = some [] := by
        simp only [St.cells, q3, Nat.zero_mul, Nat.add_zero, List.take_zero]
        rw [if_pos q4]
      simp only [q3, hc, if_true]
      rw [if_neg (by omega)]
      have := fin st rfl (fun _ _ => rfl)
      simpa [St.grow] using this

theorem Bys.cells (h : Bys st v l) : cellsOf v = [v] := by
  obtain ⟨a, cap, rfl⟩ := h.cap
  rfl
theorem Bys.one (h : Bys st v l) : oneCell v = true := by
  obtain ⟨a, cap, rfl⟩ := h.cap
  rfl
theorem nthK_at {cs : List Value} {o : Nat} {v : Value} (h : cs[o]? = some v) (K : Value → Prop) : nthK cs o K = K v := by unfold nthK; rw [h]
theorem u8v_inj (a b : UInt8) : ((a.toNat : Int) = (b.toNat : Int)) ↔ a = b := by
  constructor
  · intro h; exact UInt8.toNat_inj.1 (by omega)
  · intro h; rw [h]
theorem wk_sliceLit0 {W : Value → St → Prop} : wopK (.sliceLit [] 0 []) [] st W = W (.slice (some ⟨st.next, 0, none⟩) 0 0) (st.new (.row [] 0 false)) := of_eq_true (eq_self _)
theorem nil_bys (h : Bys st v l) (neg : Bool) (K : Value → Prop) : popK (.nilEq .slice neg) [v, .slice none 0 0] K = if ow v = 0 then K (.bool (xor neg true)) else K (.bool (xor neg false)) := by
  rcases h with ⟨h, h'⟩ | ⟨b, o, cap, cs, g, ro, q1, q2, q3, q4, q5, q6⟩ | ⟨ad, h, h'⟩
  · subst h; rw [pk_nilSlice]; rfl
  · subst q1; rw [pk_nilSlice]; rfl
  · subst h; rw [pk_nilSlice]; rfl
theorem Bys.ow0 (h : Bys st v l) (h0 : ow v = 0) : v = .slice none 0 0 ∧ l = [] := by
  rcases h with h | ⟨b, o, cap, cs, g, ro, q1, q2, q3, q4, q5, q6⟩ | ⟨ad, h, h'⟩
  · exact h
  · subst q1; cases h0
  · subst h; cases h0
end
end Go.Am
