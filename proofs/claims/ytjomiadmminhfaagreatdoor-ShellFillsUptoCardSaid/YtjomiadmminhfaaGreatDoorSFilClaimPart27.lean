/-
  A region that draws its order, in a round of a loop over an iterator: as outside.
  The words of a line: one round of the program's loop: the two appends, in whatever order.
  The words of a line: the program's Words, walked by the kit's steps.
  What the program's Words comes to, for the second machine.
-/
import Derived.OrdersHeld
import Derived.Laws.AppendOwn
import Derived.Maps.AppendAt
import Derived.Test.YtjomiadmminhfaaGreatDoorSFilClaimPart26
import Derived.RangeFuncCalls
section
set_option linter.unusedSimpArgs false
set_option linter.unusedVariables false
set_option maxRecDepth 10000
namespace Go.Proofs.YtjomiadmminhfaaGreatDoor
open Go.RowKit

section
variable {P : Program} {ops : Array Oper} {Q : Exit → Act → World → Prop} {l n : Nat}

def Oper.noDefer (o : Oper) : Bool := match o.op with
 | .defer _ => false
 | _ => true

theorem op_round (hL : ¬ LetsOut Q) {i : Nat} {K : Act → World → Prop} {a : Act} {w : World} (hd : ∀ o, ops[i]? = some o → Oper.noDefer o = true) (h : wpOp P ops Q i K a w) : wpOpIn (Fence.wide.inRound l) n P ops Q i K a w := by
 unfold wpOp at h
 unfold wpOpIn
 cases ho : ops[i]? with
 | none => rw [ho] at h; exact h
 | some o =>
  rw [ho] at h
  simp only at h ⊢
  have hnd := hd o ho
  have hnd' : ∀ c, o.op ≠ .defer c := fun c e => by simp [Oper.noDefer, e] at hnd
  split
  ·rename_i hw
   rw [if_pos hw] at h
   rcases h with h | ⟨_, h⟩
   ·unfold Oper.wp at h
    unfold Oper.wpIn
    refine ⟨fun _ _ => trivial, ?_⟩
    rw [Oper.semAt_eq _ _ _ hnd']
    generalize (execOp a.eval o).run P w = r at h
    cases r with
    | ok x w' =>
     cases x <;> simp only [Oper.upon, Oper.uponIn] at h ⊢ <;> first | exact h | (exact ⟨fun hh => by simp [Fence.wide] at hh, CallsIn.inRound l (callsIn_wide.2 h)⟩) | skip
     ·exact ⟨fun hh => by simp [Fence.wide] at hh, fun c cs _ => by
       obtain ⟨v, w'', h1, h2⟩ := h c cs
       exact ⟨v, w'', h1, stepsIn_wide.2 h2⟩⟩
    | halt x w' => cases x <;> simp only [Oper.upon, Oper.uponIn] at h ⊢ <;> exact h
   ·exact absurd h hL
  ·rename_i hw
   rw [if_neg hw] at h
   exact ⟨fun _ _ => trivial, h⟩

theorem any_round (hL : ¬ LetsOut Q) {md : Region.Mode} (hd : ∀ (i : Nat) (o : Oper), ops[i]? = some o → Oper.noDefer o = true) : ∀ (fuel : Nat) (listed : Array Bool) (a : Act) (w : World), wpAny P md ops Q fuel listed a w → wpAnyIn (Fence.wide.inRound l) n P md ops Q fuel listed a w
 | 0, _, _, _, h => h
 | fuel + 1, _, _, _, h => ⟨h.1, fun i hi => wpOpIn_mono (fun a' w' h' => any_round hL hd fuel _ a' w' h') (op_round hL (hd i) (h.2 i hi))⟩

theorem op_wide (hL : ¬ LetsOut Q) {i : Nat} {K : Act → World → Prop} {a : Act} {w : World} (hd : ∀ o, ops[i]? = some o → Oper.noDefer o = true) (h : wpOp P ops Q i K a w) : wpOpIn Fence.wide n P ops Q i K a w := by
 unfold wpOp at h
 unfold wpOpIn
 cases ho : ops[i]? with
 | none => rw [ho] at h; exact h
 | some o =>
  rw [ho] at h
  simp only at h ⊢
  have hnd := hd o ho
  have hnd' : ∀ c, o.op ≠ .defer c := fun c e => by simp [Oper.noDefer, e] at hnd
  split
  ·rename_i hw
   rw [if_pos hw] at h
   rcases h with h | ⟨_, h⟩
   ·unfold Oper.wp at h
    unfold Oper.wpIn
    refine ⟨fun _ _ => trivial, ?_⟩
    rw [Oper.semAt_eq _ _ _ hnd']
    generalize (execOp a.eval o).run P w = r at h
    cases r with
    | ok x w' =>
     cases x <;> simp only [Oper.upon, Oper.uponIn] at h ⊢ <;> first | exact h | (exact ⟨fun hh => by simp [Fence.wide] at hh, callsIn_wide.2 h⟩) | skip
     ·exact ⟨fun hh => by simp [Fence.wide] at hh, fun c cs _ => by
       obtain ⟨v, w'', h1, h2⟩ := h c cs
       exact ⟨v, w'', h1, stepsIn_wide.2 h2⟩⟩
    | halt x w' => cases x <;> simp only [Oper.upon, Oper.uponIn] at h ⊢ <;> exact h
   ·exact absurd h hL
  ·rename_i hw
   rw [if_neg hw] at h
   exact ⟨fun _ _ => trivial, h⟩

theorem any_wide (hL : ¬ LetsOut Q) {md : Region.Mode} (hd : ∀ (i : Nat) (o : Oper), ops[i]? = some o → Oper.noDefer o = true) : ∀ (fuel : Nat) (listed : Array Bool) (a : Act) (w : World), wpAny P md ops Q fuel listed a w → wpAnyIn Fence.wide n P md ops Q fuel listed a w
 | 0, _, _, _, h => h
 | fuel + 1, _, _, _, h => ⟨h.1, fun i hi => wpOpIn_mono (fun a' w' h' => any_wide hL hd fuel _ a' w' h') (op_wide hL (hd i) (h.2 i hi))⟩

theorem op_value {i : Nat} {o : Oper} {K : Act → World → Prop} {a : Act} {w w' : World} {v : Value} (hi : ops[i]? = some o) (hg : o.guard = none) (hrun : (execOp a.eval o).run P w = .ok (.value v) w') (hK : K (a.put o.dst v) w') : wpOp P ops Q i K a w := by
 unfold wpOp
 simp only [hi, Region.wanted, hg, if_true, Oper.wp, hrun, Oper.upon]
 exact .inl hK
theorem op_skip {i : Nat} {o : Oper} {K : Act → World → Prop} {a : Act} {w w' : World} (hi : ops[i]? = some o) (hg : o.guard = none) (hrun : (execOp a.eval o).run P w = .ok .skip w') (hK : K (a.put o.dst undef) w') : wpOp P ops Q i K a w := by
 unfold wpOp
 simp only [hi, Region.wanted, hg, if_true, Oper.wp, hrun, Oper.upon]
 exact .inl hK

theorem op_append {i : Nat} {o : Oper} {K : Act → World → Prop} {a : Act} {w : World} (hi0 : ops[i]? = some o) (hgd : o.guard = none) (s x : Operand) (t : TypeId)
  (ho : o.op = .call { callee := .builtin .append, args := #[s, x], argTypes := #[t, t] })
  (base : Nat) (e : TypeId) (inf : TypeInfo) (z : Value) (size bytes : Nat) (ht : P.underlying t = some (.slice e)) (hi : P.info? e = some inf) (hz : inf.zero = some z)
  (hsize : inf.size = size) (hby : inf.bytes = bytes) (hzs : z.cells.size = size) (hsz : 0 < size)
  (v : Value) (k : Nat) (xs : List Value) (hs : a.eval s = v) (hown : w.ownsRow base e size v k xs)
  (ad : Addr) (m c : Nat) (news : List Value) (hx : a.eval x = .slice (some ad) m c) (hl : news.length = m * size) (hnews : ∀ j u, news[j]? = some u → w.cell? (ad.add j) = some u) (h1 : ∀ u ∈ news, u.oneCell' = true)
  (h63 : k + m ≤ maxLen) (hbytes : (k + m) * bytes ≤ 140737488355328) (hbase : base ≤ w.heap.size)
  (h : ∀ v' w', w'.ownsRow base e size v' (k + m) (xs ++ news) → w.grownBy w' v.ownBlock → (v'.ownBlock = v.ownBlock ∨ v'.ownBlock = some w.heap.size) → K (a.put o.dst v') w') :
  wpOp P ops Q i K a w := by
 obtain ⟨v', w', hr, h2, h3, _, h5⟩ := run_append_own_at (P := P) w base t o.type e inf z size bytes ht hi hz hsize hby hzs hsz v k xs hown ad m c news hl hnews h1 h63 hbytes hbase
 refine op_value hi0 hgd (v := v') (w' := w') ?_ (h v' w' h2 h3 h5)
 unfold execOp
 simp only [ho, resolve, invoke, builtin, Sem.run_bind, Sem.run_pure, Result.andThen_ok, List.map_toArray, List.map_cons, List.map_nil, hs, hx, hr]

/-- what has come up has come behind what it waits for -/
def ClosedR (md : Region.Mode) (ops : Array Oper) (listed : Array Bool) : Prop := ∀ (k : Nat) (ok : Oper), ops[k]? = some ok → listed.getD k false = true → ∀ e ∈ ok.after, Region.binds md e = true → listed.getD e.on false = true

theorem getD_flip {listed : Array Bool} {i : Nat} (h : i < listed.size) : listed.getD i true = listed.getD i false := by
 simp [Array.getD, h]
theorem closed_set {md : Region.Mode} {listed : Array Bool} {i : Nat} (hs : listed.size = ops.size) (hc : ClosedR md ops listed) (hi : i ∈ Region.ready md ops listed) : ClosedR md ops (listed.setIfInBounds i true) := by
 obtain ⟨h1, oi, ho, hall⟩ := mem_ready.1 hi
 have hlt : i < listed.size := by
  rw [hs]; exact (Array.getElem?_eq_some_iff.1 ho).1
 have keep : ∀ j, listed.getD j false = true → (listed.setIfInBounds i true).getD j false = true := fun j hj => getD_set_true hj
 intro k ok hk hl e he hb
 by_cases hki : k = i
 ·subst hki
  rw [ho] at hk
  cases hk
  exact keep _ (hall e he hb)
 ·rw [getD_set_ne false (Ne.symm hki)] at hl
  exact keep _ (hc k ok hk hl e he hb)

theorem any_inv {md : Region.Mode} {Inv : Array Bool → Act → World → Prop} (htop : ∀ (i : Nat) (o : Oper), ops[i]? = some o → ∀ e ∈ o.after, Region.binds md e = true → e.on < i)
  (hstep : ∀ (listed : Array Bool) (a : Act) (w : World) (i : Nat), listed.size = ops.size → ClosedR md ops listed → i ∈ Region.ready md ops listed → Inv listed a w → wpOp P ops Q i (Inv (listed.setIfInBounds i true)) a w)
  (hend : ∀ (listed : Array Bool) (a : Act) (w : World), (∀ i, i < ops.size → listed.getD i false = true) → Inv listed a w → Q .normal a w) :
  ∀ (fuel : Nat) (listed : Array Bool) (a : Act) (w : World), listed.size = ops.size → ClosedR md ops listed → listed.toList.count false ≤ fuel → Inv listed a w → wpAny P md ops Q fuel listed a w := by
 have done : ∀ (listed : Array Bool), listed.size = ops.size → Region.ready md ops listed = [] → ∀ i, i < ops.size → listed.getD i false = true := by
  intro listed hs hr i
  induction i using Nat.strongRecOn with
  | ind i ih =>
   intro hi
   cases hl : listed.getD i false with
   | true => rfl
   | false =>
    have : i ∈ Region.ready md ops listed := by
     rw [mem_ready]
     refine ⟨by rw [getD_flip (by omega)]; exact hl, ops[i], Array.getElem?_eq_getElem hi, fun e he hb => ?_⟩
     have := htop i ops[i] (Array.getElem?_eq_getElem hi) e he hb
     exact ih e.on this (by omega)
    rw [hr] at this
    cases this
 intro fuel
 induction fuel with
 | zero =>
  intro listed a w hs hc hn hI
  have hr : Region.ready md ops listed = [] := by
   rw [List.eq_nil_iff_forall_not_mem]
   intro i hi
   obtain ⟨h1, oi, ho, _⟩ := mem_ready.1 hi
   have hlt : i < listed.size := by rw [hs]; exact (Array.getElem?_eq_some_iff.1 ho).1
   have hf : listed.toList.count false = 0 := by omega
   rw [List.count_eq_zero] at hf
   refine hf ?_
   have : listed[i] = false := by simpa [Array.getD, hlt] using h1
   rw [← this]
   exact Array.getElem_mem_toList hlt
  exact ⟨hr, hend listed a w (done listed hs hr) hI⟩
 | succ fuel ih =>
  intro listed a w hs hc hn hI
  refine ⟨fun hr => hend listed a w (done listed hs hr) hI, fun i hi => ?_⟩
  refine wpOp_mono (fun a' w' hI' => ih _ a' w' (by simpa using hs) (closed_set hs hc hi) ?_ hI') (hstep listed a w i hs hc hi hI)
  obtain ⟨h1, oi, ho, _⟩ := mem_ready.1 hi
  have hlt : i < listed.size := by rw [hs]; exact (Array.getElem?_eq_some_iff.1 ho).1
  have h2 : listed[i] = false := by simpa [Array.getD, hlt] using h1
  have h3 : (listed.setIfInBounds i true).toList = listed.toList.set i true := by simp
  rw [h3, List.count_set (by simpa using hlt)]
  have h4 : listed.toList[i]'(by simpa using hlt) = false := by simpa using h2
  have h5 : 0 < listed.toList.count false := List.count_pos_iff.2 (by rw [← h4]; exact List.getElem_mem _)
  rw [h4]
  have e1 : (if (false == false) = true then 1 else 0) = 1 := rfl
  have e2 : (if (true == false) = true then 1 else 0) = 0 := rfl
  rw [e1, e2]
  omega

theorem region_inv {Inv : Array Bool → Act → World → Prop} {id : Nat} {a : Act} {w : World} (hm : P.follows .mixedOrders = true) (hL : ¬ LetsOut Q) (hd : (ops.all Oper.noDefer) = true)
  (htop : (List.range ops.size).all (fun i => (ops.getD i default).after.all fun e => !Region.binds .any e || Nat.blt e.on i) = true)
  (hstep : ∀ (listed : Array Bool) (a : Act) (w : World) (i : Nat), listed.size = ops.size → ClosedR .any ops listed → i ∈ Region.ready .any ops listed → Inv listed a w → wpOp P ops Q i (Inv (listed.setIfInBounds i true)) a w)
  (hend : ∀ (listed : Array Bool) (a : Act) (w : World), (∀ i, i < ops.size → listed.getD i false = true) → Inv listed a w → Q .normal a w)
  (h0 : Inv (Array.replicate ops.size false) a { w with drawn := w.drawn + 1 }) : (Code.region id ops true).wpIn (Fence.wide.inRound l) n P Q a w := by
 refine wpIn_region_any hm (any_round hL (fun i o ho => ?_) _ _ _ _ (any_inv (fun i o ho e he hb => ?_) hstep hend _ _ _ _ (by simp) (fun k ok hk hl => ?_) ?_ h0))
 ·rw [Array.all_eq_true'] at hd
  exact hd o (Array.mem_of_getElem? ho)
 ·rw [List.all_eq_true] at htop
  have h1 := htop i (List.mem_range.2 (Array.getElem?_eq_some_iff.1 ho).1)
  have h2 : ops.getD i default = o := by simp [Array.getD_eq_getD_getElem?, ho]
  rw [h2, Array.all_eq_true'] at h1
  have h3 := h1 e he
  rw [hb] at h3
  simpa using h3
 ·by_cases hk2 : k < ops.size
  ·simp [Array.getD, hk2] at hl
  ·simp [Array.getD, hk2] at hl
 ·simp
theorem region_invW {Inv : Array Bool → Act → World → Prop} {id : Nat} {a : Act} {w : World} (hm : P.follows .mixedOrders = true) (hL : ¬ LetsOut Q) (hd : (ops.all Oper.noDefer) = true)
  (htop : (List.range ops.size).all (fun i => (ops.getD i default).after.all fun e => !Region.binds .any e || Nat.blt e.on i) = true)
  (hstep : ∀ (listed : Array Bool) (a : Act) (w : World) (i : Nat), listed.size = ops.size → ClosedR .any ops listed → i ∈ Region.ready .any ops listed → Inv listed a w → wpOp P ops Q i (Inv (listed.setIfInBounds i true)) a w)
  (hend : ∀ (listed : Array Bool) (a : Act) (w : World), (∀ i, i < ops.size → listed.getD i false = true) → Inv listed a w → Q .normal a w)
  (h0 : Inv (Array.replicate ops.size false) a { w with drawn := w.drawn + 1 }) : (Code.region id ops true).wpIn Fence.wide n P Q a w := by
 refine wpIn_region_any hm (any_wide hL (fun i o ho => ?_) _ _ _ _ (any_inv (fun i o ho e he hb => ?_) hstep hend _ _ _ _ (by simp) (fun k ok hk hl => ?_) ?_ h0))
 ·rw [Array.all_eq_true'] at hd
  exact hd o (Array.mem_of_getElem? ho)
 ·rw [List.all_eq_true] at htop
  have h1 := htop i (List.mem_range.2 (Array.getElem?_eq_some_iff.1 ho).1)
  have h2 : ops.getD i default = o := by simp [Array.getD_eq_getD_getElem?, ho]
  rw [h2, Array.all_eq_true'] at h1
  have h3 := h1 e he
  rw [hb] at h3
  simpa using h3
 ·by_cases hk2 : k < ops.size
  ·simp [Array.getD, hk2] at hl
  ·simp [Array.getD, hk2] at hl
 ·simp
end
end Go.Proofs.YtjomiadmminhfaaGreatDoor
end
section
set_option linter.unusedSimpArgs false
set_option linter.unusedVariables false
set_option maxRecDepth 10000
namespace Go.Proofs.YtjomiadmminhfaaGreatDoor
open Go.RowKit Go.Shelf

/-- the loop's variable in its box -/
def Box3 (W : World) (B : Nat) (x : WV) : Prop := W.heap[B]? = some (.cells #[.string x.1, .int .i64 x.2.1, .bool x.2.2] 89 (0, 0))
theorem Box3.kept {W W' : World} {row : Option Nat} {B : Nat} {x : WV} (h : Box3 W B x) (hg : W.grownBy W' row) (hne : some B ≠ row) : Box3 W' B x := (hg.block B (Array.getElem?_eq_some_iff.1 h).1 hne).trans h
theorem Box3.c0 {W : World} {B : Nat} {x : WV} (h : Box3 W B x) : W.cell? ⟨B, 0, none⟩ = some (.string x.1) := by simp [World.cell?, show W.heap[B]? = _ from h]
theorem Box3.c1 {W : World} {B : Nat} {x : WV} (h : Box3 W B x) : W.cell? ⟨B, 1, none⟩ = some (.int .i64 x.2.1) := by simp [World.cell?, show W.heap[B]? = _ from h]
theorem Box3.c2 {W : World} {B : Nat} {x : WV} (h : Box3 W B x) : W.cell? ⟨B, 2, none⟩ = some (.bool x.2.2) := by simp [World.cell?, show W.heap[B]? = _ from h]
theorem Box3.lt {W : World} {B : Nat} {x : WV} (h : Box3 W B x) : B < W.heap.size := (Array.getElem?_eq_some_iff.1 h).1
theorem Box3.alloc {W : World} {B : Nat} {x : WV} (h : Box3 W B x) (o : Obj) : Box3 (W.alloc o) B x := h.kept (World.grownBy_alloc W o none) (by simp)
theorem Box3.not_row {W : World} {B : Nat} {x : WV} {e : TypeId} (h : Box3 W B x) (hte : 89 ≠ e) {base size k : Nat} {v : Value} {xs : List Value} (hr : W.ownsRow base e size v k xs) : some B ≠ v.ownBlock := by
 rcases hr.2 with ⟨rfl, _⟩ | ⟨g, cap, cur, rfl, _, hgb, _⟩
 ·simp [Value.ownBlock]
 ·intro e'
  obtain rfl : B = g := by simpa [Value.ownBlock] using e'
  have := (show W.heap[B]? = _ from h).symm.trans hgb
  simp at this
  exact hte this.2
theorem Box3.other {W : World} {B B' : Nat} {x : WV} (h : Box3 W B x) (hne : B ≠ B') (u : Value) : Box3 (W.setCell ⟨B', 0, none⟩ u) B x := h.kept (grownBy_setCell' W B' u) (fun e => hne (by cases e; rfl))
/-- two rows of two kinds of elements are two blocks -/
theorem rows_ne {W : World} {e f base size k j : Nat} {v u : Value} {xs ys : List Value} (hef : e ≠ f) (h : W.ownsRow base e size v k xs) (h' : W.ownsRow base f size u j ys) : v.ownBlock = none ∨ v.ownBlock ≠ u.ownBlock := by
 rcases h.2 with ⟨rfl, _⟩ | ⟨g, cap, cur, rfl, _, hgb, _⟩
 ·exact .inl rfl
 ·refine .inr fun e' => ?_
  rcases h'.2 with ⟨rfl, _⟩ | ⟨g', cap', cur', rfl, _, hgb', _⟩
  ·simp [Value.ownBlock] at e'
  ·obtain rfl : g = g' := by simpa [Value.ownBlock] using e'
   have := hgb.symm.trans hgb'
   simp at this
   exact hef this.2
/-- what an append keeps -/
theorem append_keeps {W w1 : World} {n₀ : Nat} {e size k : Nat} {v : Value} {xs : List Value} (hrow : W.ownsRow n₀ e size v k xs) (hn₀ : n₀ ≤ W.heap.size) (hgrow : W.grownBy w1 v.ownBlock) : KeepsOthers W w1 ∧ Below n₀ W w1 := by
 refine ⟨?_, ?_⟩
 ·refine KeepsOthers.of_grownBy hgrow fun j o ej hj => ?_
  rcases hrow.2 with ⟨rfl, _⟩ | ⟨g, cap, cur, rfl, _, hgb, _⟩
  ·simp [Value.ownBlock] at ej
  ·obtain rfl : g = j := by simpa [Value.ownBlock] using ej
   rw [hgb] at hj; cases hj; rfl
 ·refine (Below.refl n₀ W).grown hgrow hn₀ fun j ej => ?_
  rcases hrow.2 with ⟨rfl, _⟩ | ⟨g, cap, cur, rfl, hb, _, _⟩
  ·simp [Value.ownBlock] at ej
  ·obtain rfl : g = j := by simpa [Value.ownBlock] using ej
   exact hb

theorem infoS : (Tryz.prog.info? 9).map (fun i => (i.zero, i.size, i.bytes)) = some (some (.string .empty), 1, 16) := by kernel_rfl
theorem infoB : (Tryz.prog.info? 4).map (fun i => (i.zero, i.size, i.bytes)) = some (some (.bool false), 1, 1) := by kernel_rfl

/-- the place in the body where the words are laid on -/
def actB (z n1 Bx : Nat) (s : ByteArray) (x : WV) (t20 t21 t22 t23 t24 t25 t26 t27 t28 t29 : Value) : Act := { tmps := #[.string s, undef, .pointer (some ⟨z, 0, none⟩), .pointer (some ⟨z + 1, 0, none⟩), .pointer (some ⟨z + 1 + 1, 0, none⟩), .int .i64 0, .pointer (some ⟨n1, 0, none⟩), .pointer (some ⟨n1 + 1, 0, none⟩), .pointer (some ⟨Bx, 0, none⟩), .string s, .int .i64 0, .int .i64 0, .bool false, undef, .string s, .func (.func 79) #[] #[.pointer (some ⟨n1 + 1 + 1, 0, none⟩)], .agg #[.string x.1, .int .i64 x.2.1, .bool x.2.2], .pointer (some ⟨Bx, 1, none⟩), .int .i64 x.2.1, .bool (decide (x.2.1 < 0)), t20, t21, t22, t23, t24, t25, t26, t27, t28, t29, undef, undef], defers := [] }

structure RIn (n0 B6 B7 Bn Bx : Nat) (x : WV) (v u : Value) (k : Nat) (xs ys : List Value) (W : World) (b : Nat → Bool) (t20 t21 t22 t23 t24 t25 t26 t27 t28 t29 : Value) (w' : World) : Prop where
 f0 : b 0 = true → t20 = v
 f1 : b 1 = true → t21 = .pointer (some ⟨Bx, 0, none⟩)
 f2 : b 2 = true → t22 = .string x.1
 f3 : b 3 = true → b 4 = false → ∃ g, t23 = .slice (some ⟨g, 0, none⟩) 1 1 ∧ Boxed w' g 9 (.string x.1)
 f5 : b 5 = true → t25 = u
 f6 : b 6 = true → t26 = .pointer (some ⟨Bx, 2, none⟩)
 f7 : b 7 = true → t27 = .bool x.2.2
 f8 : b 8 = true → b 9 = false → ∃ g, t28 = .slice (some ⟨g, 0, none⟩) 1 1 ∧ Boxed w' g 4 (.bool x.2.2)
 r4 : b 4 = false → w'.ownsRow n0 9 1 v k xs
 r4' : b 4 = true → w'.ownsRow n0 9 1 t24 (k + 1) (xs ++ [.string x.1]) ∧ t24.ownBlock ≠ some Bn
 r9 : b 9 = false → w'.ownsRow n0 4 1 u k ys
 r9' : b 9 = true → w'.ownsRow n0 4 1 t29 (k + 1) (ys ++ [.bool x.2.2])
 q6 : Boxed w' B6 23 (if b 10 = true then t24 else v)
 q7 : Boxed w' B7 41 (if b 11 = true then t29 else u)
 qx : Box3 w' Bx x
 ko : KeepsOthers W w'
 be : Below n0 W w'
 kb : ∀ (B : Nat) (t : TypeId) (val : Value), B ≠ B6 → B ≠ B7 → t ≠ 9 → t ≠ 4 → Boxed W B t val → Boxed w' B t val
 kn : ∀ (val : Value), Boxed W Bn 9 val → Boxed w' Bn 9 val
 sz : n0 ≤ W.heap.size ∧ W.heap.size ≤ w'.heap.size

section
variable {n0 B6 B7 Bn Bx : Nat} {x : WV} {v u : Value} {k : Nat} {xs ys : List Value} {W w' : World} {b : Nat → Bool} {t20 t21 t22 t23 t24 t25 t26 t27 t28 t29 : Value}

/-- something is laid beside -/
theorem RIn.alloc (h : RIn n0 B6 B7 Bn Bx x v u k xs ys W b t20 t21 t22 t23 t24 t25 t26 t27 t28 t29 w') (o : Obj) : RIn n0 B6 B7 Bn Bx x v u k xs ys W b t20 t21 t22 t23 t24 t25 t26 t27 t28 t29 (w'.alloc o) where
 f0 := h.f0
 f1 := h.f1
 f2 := h.f2
 f3 := fun h1 h2 => by obtain ⟨g, k1, k2⟩ := h.f3 h1 h2; exact ⟨g, k1, k2.alloc _⟩
 f5 := h.f5
 f6 := h.f6
 f7 := h.f7
 f8 := fun h1 h2 => by obtain ⟨g, k1, k2⟩ := h.f8 h1 h2; exact ⟨g, k1, k2.alloc _⟩
 r4 := fun h1 => (h.r4 h1).alloc _
 r4' := fun h1 => ⟨(h.r4' h1).1.alloc _, (h.r4' h1).2⟩
 r9 := fun h1 => (h.r9 h1).alloc _
 r9' := fun h1 => (h.r9' h1).alloc _
 q6 := h.q6.alloc _
 q7 := h.q7.alloc _
 qx := h.qx.alloc _
 ko := h.ko.trans (KeepsOthers.alloc _ _)
 be := h.be.alloc (Nat.le_trans h.sz.1 h.sz.2) _
 kb := fun B t val h1 h2 h3 h4 h5 => (h.kb B t val h1 h2 h3 h4 h5).alloc _
 kn := fun val h1 => (h.kn val h1).alloc _
 sz := ⟨h.sz.1, by have := h.sz.2; simp; omega⟩
/-- the draw -/
theorem RIn.drew (h : RIn n0 B6 B7 Bn Bx x v u k xs ys W b t20 t21 t22 t23 t24 t25 t26 t27 t28 t29 w') : RIn n0 B6 B7 Bn Bx x v u k xs ys W b t20 t21 t22 t23 t24 t25 t26 t27 t28 t29 { w' with drawn := w'.drawn + 1 } := ⟨h.f0, h.f1, h.f2, h.f3, h.f5, h.f6, h.f7, h.f8, h.r4, h.r4', h.r9, h.r9', h.q6, h.q7, h.qx, h.ko.trans (KeepsOthers.drew _), h.be.trans (Below.drew (Below.refl _ _)), h.kb, h.kn, h.sz⟩

/-- one more has come up -/
def updB (i : Nat) (b : Nat → Bool) : Nat → Bool := fun j => if j = i then true else b j

theorem RIn.s0 (h : RIn n0 B6 B7 Bn Bx x v u k xs ys W b t20 t21 t22 t23 t24 t25 t26 t27 t28 t29 w') : RIn n0 B6 B7 Bn Bx x v u k xs ys W (updB 0 b) v t21 t22 t23 t24 t25 t26 t27 t28 t29 w' := { h with f0 := fun _ => rfl }
theorem RIn.s1 (h : RIn n0 B6 B7 Bn Bx x v u k xs ys W b t20 t21 t22 t23 t24 t25 t26 t27 t28 t29 w') : RIn n0 B6 B7 Bn Bx x v u k xs ys W (updB 1 b) t20 (.pointer (some ⟨Bx, 0, none⟩)) t22 t23 t24 t25 t26 t27 t28 t29 w' := { h with f1 := fun _ => rfl }
theorem RIn.s2 (h : RIn n0 B6 B7 Bn Bx x v u k xs ys W b t20 t21 t22 t23 t24 t25 t26 t27 t28 t29 w') : RIn n0 B6 B7 Bn Bx x v u k xs ys W (updB 2 b) t20 t21 (.string x.1) t23 t24 t25 t26 t27 t28 t29 w' := { h with f2 := fun _ => rfl }
theorem RIn.s3 (h : RIn n0 B6 B7 Bn Bx x v u k xs ys W b t20 t21 t22 t23 t24 t25 t26 t27 t28 t29 w') : RIn n0 B6 B7 Bn Bx x v u k xs ys W (updB 3 b) t20 t21 t22 (.slice (some ⟨w'.heap.size, 0, none⟩) 1 1) t24 t25 t26 t27 t28 t29 (w'.alloc (.cells #[.string x.1] 9)) := { h.alloc _ with f3 := fun _ _ => ⟨_, rfl, Boxed.new w' 9 _⟩ }
theorem RIn.s5 (h : RIn n0 B6 B7 Bn Bx x v u k xs ys W b t20 t21 t22 t23 t24 t25 t26 t27 t28 t29 w') : RIn n0 B6 B7 Bn Bx x v u k xs ys W (updB 5 b) t20 t21 t22 t23 t24 u t26 t27 t28 t29 w' := { h with f5 := fun _ => rfl }
theorem RIn.s6 (h : RIn n0 B6 B7 Bn Bx x v u k xs ys W b t20 t21 t22 t23 t24 t25 t26 t27 t28 t29 w') : RIn n0 B6 B7 Bn Bx x v u k xs ys W (updB 6 b) t20 t21 t22 t23 t24 t25 (.pointer (some ⟨Bx, 2, none⟩)) t27 t28 t29 w' := { h with f6 := fun _ => rfl }
theorem RIn.s7 (h : RIn n0 B6 B7 Bn Bx x v u k xs ys W b t20 t21 t22 t23 t24 t25 t26 t27 t28 t29 w') : RIn n0 B6 B7 Bn Bx x v u k xs ys W (updB 7 b) t20 t21 t22 t23 t24 t25 t26 (.bool x.2.2) t28 t29 w' := { h with f7 := fun _ => rfl }
theorem RIn.s8 (h : RIn n0 B6 B7 Bn Bx x v u k xs ys W b t20 t21 t22 t23 t24 t25 t26 t27 t28 t29 w') : RIn n0 B6 B7 Bn Bx x v u k xs ys W (updB 8 b) t20 t21 t22 t23 t24 t25 t26 t27 (.slice (some ⟨w'.heap.size, 0, none⟩) 1 1) t29 (w'.alloc (.cells #[.bool x.2.2] 4)) := { h.alloc _ with f8 := fun _ _ => ⟨_, rfl, Boxed.new w' 4 _⟩ }
theorem RIn.s4 (h : RIn n0 B6 B7 Bn Bx x v u k xs ys W b t20 t21 t22 t23 t24 t25 t26 t27 t28 t29 w') (hb4 : b 4 = false) (hb10 : b 10 = false) {w2 : World} {v' : Value} (hown : w2.ownsRow n0 9 1 v' (k + 1) (xs ++ [.string x.1])) (hg : w'.grownBy w2 v.ownBlock) (hat : v'.ownBlock = v.ownBlock ∨ v'.ownBlock = some w'.heap.size) (hvB : v.ownBlock ≠ some Bn) (hBn : Bn < W.heap.size) :
  RIn n0 B6 B7 Bn Bx x v u k xs ys W (updB 4 b) t20 t21 t22 t23 v' t25 t26 t27 t28 t29 w2 where
 f0 := h.f0
 f1 := h.f1
 f2 := h.f2
 f3 := fun _ h2 => by cases h2
 f5 := h.f5
 f6 := h.f6
 f7 := h.f7
 f8 := fun h1 h2 => by obtain ⟨g, k1, k2⟩ := h.f8 h1 h2; exact ⟨g, k1, k2.kept hg (k2.not_row (by decide) (h.r4 hb4))⟩
 r4 := fun h1 => by cases h1
 r4' := fun _ => ⟨hown, by
  rcases hat with e | e
  ·rw [e]; exact hvB
  ·rw [e]; intro e'; have := h.sz.2; simp at e'; omega⟩
 r9 := fun h1 => (h.r9 h1).kept hg (rows_ne (by decide) (h.r9 h1) (h.r4 hb4))
 r9' := fun h1 => (h.r9' h1).kept hg (rows_ne (by decide) (h.r9' h1) (h.r4 hb4))
 q6 := by
  have := h.q6
  rw [hb10] at this
  have e : updB 4 b 10 = false := hb10
  rw [e]
  exact this.kept hg (this.not_row (by decide) (h.r4 hb4))
 q7 := h.q7.kept hg (h.q7.not_row (by decide) (h.r4 hb4))
 qx := h.qx.kept hg (h.qx.not_row (by decide) (h.r4 hb4))
 ko := h.ko.trans (append_keeps (h.r4 hb4) (Nat.le_trans h.sz.1 h.sz.2) hg).1
 be := h.be.trans (append_keeps (h.r4 hb4) (Nat.le_trans h.sz.1 h.sz.2) hg).2
 kb := fun B t val h1 h2 h3 h4 h5 => by
  have := h.kb B t val h1 h2 h3 h4 h5
  exact this.kept hg (this.not_row h3 (h.r4 hb4))
 kn := fun val h1 => (h.kn val h1).kept hg (Ne.symm hvB)
 sz := ⟨h.sz.1, Nat.le_trans h.sz.2 hg.size⟩
theorem RIn.s9 (h : RIn n0 B6 B7 Bn Bx x v u k xs ys W b t20 t21 t22 t23 t24 t25 t26 t27 t28 t29 w') (hb4 : b 4 = true) (hb9 : b 9 = false) (hb11 : b 11 = false) {w2 : World} {u' : Value} (hown : w2.ownsRow n0 4 1 u' (k + 1) (ys ++ [.bool x.2.2])) (hg : w'.grownBy w2 u.ownBlock) :
  RIn n0 B6 B7 Bn Bx x v u k xs ys W (updB 9 b) t20 t21 t22 t23 t24 t25 t26 t27 t28 u' w2 where
 f0 := h.f0
 f1 := h.f1
 f2 := h.f2
 f3 := fun _ h2 => by rw [show updB 9 b 4 = b 4 from rfl, hb4] at h2; cases h2
 f5 := h.f5
 f6 := h.f6
 f7 := h.f7
 f8 := fun _ h2 => by cases h2
 r4 := fun h1 => (h.r4 h1).kept hg (rows_ne (by decide) (h.r4 h1) (h.r9 hb9))
 r4' := fun h1 => ⟨(h.r4' h1).1.kept hg (rows_ne (by decide) (h.r4' h1).1 (h.r9 hb9)), (h.r4' h1).2⟩
 r9 := fun h1 => by cases h1
 r9' := fun _ => hown
 q6 := h.q6.kept hg (h.q6.not_row (by decide) (h.r9 hb9))
 q7 := by
  have := h.q7
  rw [hb11] at this
  have e : updB 9 b 11 = false := hb11
  rw [e]
  exact this.kept hg (this.not_row (by decide) (h.r9 hb9))
 qx := h.qx.kept hg (h.qx.not_row (by decide) (h.r9 hb9))
 ko := h.ko.trans (append_keeps (h.r9 hb9) (Nat.le_trans h.sz.1 h.sz.2) hg).1
 be := h.be.trans (append_keeps (h.r9 hb9) (Nat.le_trans h.sz.1 h.sz.2) hg).2
 kb := fun B t val h1 h2 h3 h4 h5 => by
  have := h.kb B t val h1 h2 h3 h4 h5
  exact this.kept hg (this.not_row h4 (h.r9 hb9))
 kn := fun val h1 => (h.kn val h1).kept hg ((h.kn val h1).not_row (by decide) (h.r9 hb9))
 sz := ⟨h.sz.1, Nat.le_trans h.sz.2 hg.size⟩
theorem RIn.s10 (h : RIn n0 B6 B7 Bn Bx x v u k xs ys W b t20 t21 t22 t23 t24 t25 t26 t27 t28 t29 w') (hb4 : b 4 = true) (hb9 : b 9 = true) (h67 : B6 ≠ B7) (h6x : Bx ≠ B6) (h6n : Bn ≠ B6) (hn6 : n0 ≤ B6) :
  RIn n0 B6 B7 Bn Bx x v u k xs ys W (updB 10 b) t20 t21 t22 t23 t24 t25 t26 t27 t28 t29 (w'.setCell ⟨B6, 0, none⟩ t24) where
 f0 := h.f0
 f1 := h.f1
 f2 := h.f2
 f3 := fun _ h2 => by rw [show updB 10 b 4 = b 4 from rfl, hb4] at h2; cases h2
 f5 := h.f5
 f6 := h.f6
 f7 := h.f7
 f8 := fun _ h2 => by rw [show updB 10 b 9 = b 9 from rfl, hb9] at h2; cases h2
 r4 := fun h1 => by rw [show updB 10 b 4 = b 4 from rfl, hb4] at h1; cases h1
 r4' := fun h1 => ⟨(h.r4' h1).1.kept (grownBy_setCell' w' B6 _) (.inr (h.q6.not_row (by decide) (h.r4' h1).1).symm), (h.r4' h1).2⟩
 r9 := fun h1 => by rw [show updB 10 b 9 = b 9 from rfl, hb9] at h1; cases h1
 r9' := fun h1 => (h.r9' h1).kept (grownBy_setCell' w' B6 _) (.inr (h.q6.not_row (by decide) (h.r9' h1)).symm)
 q6 := h.q6.set t24
 q7 := h.q7.other (Ne.symm h67) _
 qx := h.qx.other h6x _
 ko := h.ko.trans (KeepsOthers.setCell _ _ _)
 be := h.be.setCell (p := ⟨B6, 0, none⟩) hn6 _
 kb := fun B t val h1 h2 h3 h4 h5 => (h.kb B t val h1 h2 h3 h4 h5).other h1 _
 kn := fun val h1 => (h.kn val h1).other h6n _
 sz := ⟨h.sz.1, by have := h.sz.2; simpa using this⟩
theorem RIn.s11 (h : RIn n0 B6 B7 Bn Bx x v u k xs ys W b t20 t21 t22 t23 t24 t25 t26 t27 t28 t29 w') (hb4 : b 4 = true) (hb9 : b 9 = true) (h67 : B6 ≠ B7) (h7x : Bx ≠ B7) (h7n : Bn ≠ B7) (hn7 : n0 ≤ B7) :
  RIn n0 B6 B7 Bn Bx x v u k xs ys W (updB 11 b) t20 t21 t22 t23 t24 t25 t26 t27 t28 t29 (w'.setCell ⟨B7, 0, none⟩ t29) where
 f0 := h.f0
 f1 := h.f1
 f2 := h.f2
 f3 := fun _ h2 => by rw [show updB 11 b 4 = b 4 from rfl, hb4] at h2; cases h2
 f5 := h.f5
 f6 := h.f6
 f7 := h.f7
 f8 := fun _ h2 => by rw [show updB 11 b 9 = b 9 from rfl, hb9] at h2; cases h2
 r4 := fun h1 => by rw [show updB 11 b 4 = b 4 from rfl, hb4] at h1; cases h1
 r4' := fun h1 => ⟨(h.r4' h1).1.kept (grownBy_setCell' w' B7 _) (.inr (h.q7.not_row (by decide) (h.r4' h1).1).symm), (h.r4' h1).2⟩
 r9 := fun h1 => by rw [show updB 11 b 9 = b 9 from rfl, hb9] at h1; cases h1
 r9' := fun h1 => (h.r9' h1).kept (grownBy_setCell' w' B7 _) (.inr (h.q7.not_row (by decide) (h.r9' h1)).symm)
 q6 := h.q6.other h67 _
 q7 := h.q7.set t29
 qx := h.qx.other h7x _
 ko := h.ko.trans (KeepsOthers.setCell _ _ _)
 be := h.be.setCell (p := ⟨B7, 0, none⟩) hn7 _
 kb := fun B t val h1 h2 h3 h4 h5 => (h.kb B t val h1 h2 h3 h4 h5).other h2 _
 kn := fun val h1 => (h.kn val h1).other h7n _
 sz := ⟨h.sz.1, by have := h.sz.2; simpa using this⟩
end

/-- the place where the results are written -/
def actE (z n1 D : Nat) (s : ByteArray) (t30 t31 : Value) : Act := { tmps := #[.string s, undef, .pointer (some ⟨z, 0, none⟩), .pointer (some ⟨z + 1, 0, none⟩), .pointer (some ⟨z + 1 + 1, 0, none⟩), .int .i64 0, .pointer (some ⟨n1, 0, none⟩), .pointer (some ⟨n1 + 1, 0, none⟩), undef, .string s, .int .i64 0, .int .i64 0, .bool false, undef, .string s, .func (.func 79) #[] #[.pointer (some ⟨n1 + 1 + 1, 0, none⟩)], undef, undef, undef, undef, undef, undef, undef, undef, undef, undef, undef, undef, undef, undef, t30, t31], defers := [{ target := .collected D, args := #[] }] }

structure SIn (n0 n1 : Nat) (v u : Value) (k : Nat) (xs ys : List Value) (W : World) (b : Nat → Bool) (t30 t31 : Value) (w' : World) : Prop where
 f0 : b 0 = true → t30 = v
 f1 : b 1 = true → t31 = u
 p2 : Boxed w' n0 23 (if b 2 = true then v else .slice none 0 0)
 p3 : Boxed w' (n0 + 1) 41 (if b 3 = true then u else .slice none 0 0)
 p4 : Boxed w' (n0 + 1 + 1) 24 (.int .i64 0)
 p6 : Boxed w' n1 23 v
 p7 : Boxed w' (n1 + 1) 41 u
 rv : w'.ownsRow n0 9 1 v k xs
 ru : w'.ownsRow n0 4 1 u k ys
 ko : KeepsOthers W w'
 be : Below n0 W w'

section
variable {n0 n1 : Nat} {v u : Value} {k : Nat} {xs ys : List Value} {W w' : World} {b : Nat → Bool} {t30 t31 : Value}
theorem SIn.drew (h : SIn n0 n1 v u k xs ys W b t30 t31 w') : SIn n0 n1 v u k xs ys W b t30 t31 { w' with drawn := w'.drawn + 1 } := ⟨h.f0, h.f1, h.p2, h.p3, h.p4, h.p6, h.p7, h.rv, h.ru, h.ko.trans (KeepsOthers.drew _), h.be.trans (Below.drew (Below.refl _ _))⟩
theorem SIn.s0 (h : SIn n0 n1 v u k xs ys W b t30 t31 w') : SIn n0 n1 v u k xs ys W (updB 0 b) v t31 w' := { h with f0 := fun _ => rfl }
theorem SIn.s1 (h : SIn n0 n1 v u k xs ys W b t30 t31 w') : SIn n0 n1 v u k xs ys W (updB 1 b) t30 u w' := { h with f1 := fun _ => rfl }
theorem SIn.s2 (h : SIn n0 n1 v u k xs ys W b t30 t31 w') (hn : n0 + 1 + 1 < n1) : SIn n0 n1 v u k xs ys W (updB 2 b) t30 t31 (w'.setCell ⟨n0, 0, none⟩ v) where
 f0 := h.f0
 f1 := h.f1
 p2 := h.p2.set v
 p3 := h.p3.other (by omega) _
 p4 := h.p4.other (by omega) _
 p6 := h.p6.other (by omega) _
 p7 := h.p7.other (by omega) _
 rv := h.rv.kept (grownBy_setCell' w' n0 _) (.inr (h.p2.not_row (by decide) h.rv).symm)
 ru := h.ru.kept (grownBy_setCell' w' n0 _) (.inr (h.p2.not_row (by decide) h.ru).symm)
 ko := h.ko.trans (KeepsOthers.setCell _ _ _)
 be := h.be.setCell (p := ⟨n0, 0, none⟩) (Nat.le_refl _) _
theorem SIn.s3 (h : SIn n0 n1 v u k xs ys W b t30 t31 w') (hn : n0 + 1 + 1 < n1) : SIn n0 n1 v u k xs ys W (updB 3 b) t30 t31 (w'.setCell ⟨n0 + 1, 0, none⟩ u) where
 f0 := h.f0
 f1 := h.f1
 p2 := h.p2.other (by omega) _
 p3 := h.p3.set u
 p4 := h.p4.other (by omega) _
 p6 := h.p6.other (by omega) _
 p7 := h.p7.other (by omega) _
 rv := h.rv.kept (grownBy_setCell' w' (n0 + 1) _) (.inr (h.p3.not_row (by decide) h.rv).symm)
 ru := h.ru.kept (grownBy_setCell' w' (n0 + 1) _) (.inr (h.p3.not_row (by decide) h.ru).symm)
 ko := h.ko.trans (KeepsOthers.setCell _ _ _)
 be := h.be.setCell (p := ⟨n0 + 1, 0, none⟩) (Nat.le_succ _) _
theorem SIn.s4 (h : SIn n0 n1 v u k xs ys W b t30 t31 w') (hn : n0 + 1 + 1 < n1) : SIn n0 n1 v u k xs ys W (updB 4 b) t30 t31 (w'.setCell ⟨n0 + 1 + 1, 0, none⟩ (.int .i64 0)) where
 f0 := h.f0
 f1 := h.f1
 p2 := h.p2.other (by omega) _
 p3 := h.p3.other (by omega) _
 p4 := h.p4.set _
 p6 := h.p6.other (by omega) _
 p7 := h.p7.other (by omega) _
 rv := h.rv.kept (grownBy_setCell' w' (n0 + 1 + 1) _) (.inr (h.p4.not_row (by decide) h.rv).symm)
 ru := h.ru.kept (grownBy_setCell' w' (n0 + 1 + 1) _) (.inr (h.p4.not_row (by decide) h.ru).symm)
 ko := h.ko.trans (KeepsOthers.setCell _ _ _)
 be := h.be.setCell (p := ⟨n0 + 1 + 1, 0, none⟩) (by show n0 ≤ n0 + 1 + 1; omega) _
end
end Go.Proofs.YtjomiadmminhfaaGreatDoor
end
section
set_option linter.unusedSimpArgs false
set_option linter.unusedVariables false
set_option maxRecDepth 10000
namespace Go.Proofs.YtjomiadmminhfaaGreatDoor
open Go.RowKit Go.Shelf

attribute [local go_sem] Oper.semAt_some

theorem KpW.put {n₀ Bn : Nat} {s : ByteArray} {w0 : World} (hn : n₀ ≤ w0.heap.size) (W : World) (l : Nat) (o o' : Obj) (hl : w0.heap.size ≤ l) (hW : W.heap[l]? = some o) (ho : o.isCells = false) (hw : o.isWalk = false) : KpW n₀ Bn s W (W.putObj l o') := by
 refine ⟨belowK_b (w := w0) hn W l o o' hl hW ho hw, fun hx => hx.kept (grownBy_putObj' W l o') fun e => ?_⟩
 obtain rfl : Bn = l := by simpa using e
 rw [show W.heap[Bn]? = _ from hx] at hW
 cases hW
 cases ho

theorem read0 {s : ByteArray} (h : readA s = 0) : s.size ≤ 1000 ∧ s.data.toList.all prn = true := by
 unfold readA at h
 split at h
 ·cases h
 ·split at h
  ·exact ⟨by omega, by assumption⟩
  ·cases h

def strV (x : WV) : Value := .string x.1
def booV (x : WV) : Value := .bool x.2.2

theorem words_results {tmps : Array Value} {p2 p3 p4 : Addr} {v2 v3 v4 : Value} {w : World} (h2 : tmps.getD 2 undef = .pointer (some p2)) (h3 : tmps.getD 3 undef = .pointer (some p3)) (h4 : tmps.getD 4 undef = .pointer (some p4)) (c2 : w.cell? p2 = some v2) (c3 : w.cell? p3 = some v3) (c4 : w.cell? p4 = some v4) :
  (results Tryz.f19 tmps).run Tryz.prog w = .ok (.tuple #[v2, v3, v4]) w := by
 have hr : Tryz.f19.results = #[.cell 2 23, .cell 3 41, .cell 4 24] := rfl
 have a1 := Tryz.isAgg27
 have a2 := Tryz.isAgg48
 have a3 := Tryz.isAgg24
 simp only [Array.getD_eq_getD_getElem?] at h2 h3 h4
 simp [results, hr, asAddr, loadVar, h2, h3, h4, a1, a2, a3, run_load, c2, c3, c4]

/-- what Words comes to -/
def WOut (s : ByteArray) (w : World) (e : Ending) (W' : World) : Prop := Below w.heap.size w W' ∧
  ((readA s ≠ 0 ∧ e = .returned (.tuple #[.slice none 0 0, .slice none 0 0, .int .i64 (readA s)])) ∨
   (readA s = 0 ∧ WsR s.data.toList 0 none ∧ e = .returned (.tuple #[.slice none 0 0, .slice none 0 0, .int .i64 250])) ∨
   (readA s = 0 ∧ ∃ xs v u, WsR s.data.toList 0 (some (shows xs)) ∧ (xs = [] → v = .slice none 0 0 ∧ u = .slice none 0 0) ∧ W'.ownsRow w.heap.size 9 1 v xs.length (xs.map strV) ∧ W'.ownsRow w.heap.size 4 1 u xs.length (xs.map booV) ∧ e = .returned (.tuple #[v, u, .int .i64 0])))

set_option maxRecDepth 100000 in
set_option maxHeartbeats 4000000 in
theorem words_walk (s : ByteArray) (w : World) (m : Int) (hm : w.cell? ⟨0, 0, none⟩ = some (.int .i64 m)) (h0 : 0 < w.heap.size) :
  Calls Tryz.prog 19 #[.string s] w fun e W' => WOut s w e W' := by
 refine (callsIn_wide (n := 6)).1 ?_
 refine callsIn_of_wp_marks Tryz.func19 rfl trivial ?_ rfl
 simp only [Tryz.ntmps19, List.size_toArray, List.length_cons, List.length_nil, Nat.reduceAdd, Nat.reduceSub, Array.replicate_succ, Array.replicate_zero, List.push_toArray, List.append_toArray, List.nil_append, List.cons_append]
 have hmA : (((w.alloc (.cells #[.slice none 0 0] 23)).alloc (.cells #[.slice none 0 0] 41)).alloc (.cells #[.int .i64 0] 24)).cell? ⟨0, 0, none⟩ = some (.int .i64 m) := (((((Below.refl w.heap.size w).alloc (Nat.le_refl _) _).alloc (by simp) _).alloc (by simp; omega) _).cell (p := ⟨0, 0, none⟩) h0).trans hm
 have b2' := ((Boxed.new w 23 (.slice none 0 0)).alloc (.cells #[.slice none 0 0] 41)).alloc (.cells #[.int .i64 0] 24)
 have b3' := (Boxed.new (w.alloc (.cells #[.slice none 0 0] 23)) 41 (.slice none 0 0)).alloc (.cells #[.int .i64 0] 24)
 have b4' := Boxed.new ((w.alloc (.cells #[.slice none 0 0] 23)).alloc (.cells #[.slice none 0 0] 41)) 24 (.int .i64 0)
 simp only [World.size_alloc] at b3' b4'
 have hA0 : Below w.heap.size w (((w.alloc (.cells #[.slice none 0 0] 23)).alloc (.cells #[.slice none 0 0] 41)).alloc (.cells #[.int .i64 0] 24)) := (((Below.refl _ w).alloc (Nat.le_refl _) _).alloc (by simp) _).alloc (by simp; omega) _
 gi_wp2_with (refine ⟨trivial, ?_⟩; first | (gi_at_call 48; refine (callsIn_wide.2 (readable_calls s _ m hmA (by simp))).mono ?_; rintro e w1 ⟨rfl, hb1⟩; have b2 := b2'.kept (grown_of hb1) (by simp); have b3 := b3'.kept (grown_of hb1) (by simp); have b4 := b4'.kept (grown_of hb1) (by simp); have c2 := b2.cell; have c3 := b3.cell; have c4 := b4.cell; have f2 := b2.frozen; have f3 := b3.frozen; have f4 := b4.frozen) | (gi_at_call 49; refine (words_in _ s _).mono ?_; rintro e w' ⟨rfl, rfl⟩))
 ·-- a line that can't be read
  have hne : readA s ≠ 0 := by
   have hh : (readA s != 0) = true := by assumption
   simpa using hh
  refine ⟨_, words_results rfl rfl rfl (by go_simp) (by go_simp) (by go_simp), ?_, .inl ⟨hne, rfl⟩⟩
  have hb : Below w.heap.size w w1 := hA0.trans (hb1.mono hA0.size)
  exact ((hb.setCell (p := ⟨w.heap.size, 0, none⟩) (Nat.le_refl _) _).setCell (p := ⟨w.heap.size + 1, 0, none⟩) (by simp) _).setCell (p := ⟨w.heap.size + 1 + 1, 0, none⟩) (by simp; omega) _
 ·have hr0 : readA s = 0 := by
   have hh : (readA s != 0) = false := by assumption
   simpa using hh
  obtain ⟨hs1, hpr⟩ := read0 hr0
  rw [hr0]
  have hz1 := hb1.size
  have hzA := hA0.size
  have hgt : w.heap.size + 1 + 1 < w1.heap.size := b4.lt
  have hb : Below w.heap.size w w1 := hA0.trans (hb1.mono hA0.size)
  have x2 := ((b2.alloc (.cells #[.slice none 0 0] 23)).alloc (.cells #[.slice none 0 0] 41)).alloc (.cells #[.string s] 9)
  have x3 := ((b3.alloc (.cells #[.slice none 0 0] 23)).alloc (.cells #[.slice none 0 0] 41)).alloc (.cells #[.string s] 9)
  have x4 := ((b4.alloc (.cells #[.slice none 0 0] 23)).alloc (.cells #[.slice none 0 0] 41)).alloc (.cells #[.string s] 9)
  have x6 := ((Boxed.new w1 23 (.slice none 0 0)).alloc (.cells #[.slice none 0 0] 41)).alloc (.cells #[.string s] 9)
  have x7 := (Boxed.new (w1.alloc (.cells #[.slice none 0 0] 23)) 41 (.slice none 0 0)).alloc (.cells #[.string s] 9)
  have xL := Boxed.new ((w1.alloc (.cells #[.slice none 0 0] 23)).alloc (.cells #[.slice none 0 0] 41)) 9 (.string s)
  simp only [World.size_alloc] at x7 xL
  have hB0 : Below w.heap.size w (((w1.alloc (.cells #[.slice none 0 0] 23)).alloc (.cells #[.slice none 0 0] 41)).alloc (.cells #[.string s] 9)) := ((hb.alloc (by omega) _).alloc (by simp; omega) _).alloc (by simp; omega) _
  have hsz : (((w1.alloc (.cells #[.slice none 0 0] 23)).alloc (.cells #[.slice none 0 0] 41)).alloc (.cells #[.string s] 9)).heap.size = w1.heap.size + 3 := by simp
  have hm0 := (hB0.cell (p := ⟨0, 0, none⟩) h0).trans hm
  obtain ⟨W0, hW0⟩ : ∃ W0, ((w1.alloc (.cells #[.slice none 0 0] 23)).alloc (.cells #[.slice none 0 0] 41)).alloc (.cells #[.string s] 9) = W0 := ⟨_, rfl⟩
  rw [hW0] at x2 x3 x4 x6 x7 xL hB0 hsz hm0 ⊢
  clear hW0
  refine wpIn_rangeFunc_ownH rfl (by decide) (gf := 79) (lb := #[.pointer (some ⟨w1.heap.size + 1 + 1, 0, none⟩)]) rfl trivial (enters_of Tryz.func79 (by kernel_rfl) rfl)
   (words_stops 5 (by decide) (w1.heap.size + 1 + 1) w.heap.size s (by omega) hpr m W0 xL hm0 h0 (by omega)) (fun h k => h.trans k) (KpW.put (by omega)) (Below.refl _ _) (fun _ => rfl)
   (fun pre W => (((∃ v, Boxed W w1.heap.size 23 v ∧ W.ownsRow w.heap.size 9 1 v pre.length (pre.map strV) ∧ (v.ownBlock ≠ some (w1.heap.size + 1 + 1) ∧ (pre = [] → v = .slice none 0 0))) ∧ (∃ v, Boxed W (w1.heap.size + 1) 41 v ∧ W.ownsRow w.heap.size 4 1 v pre.length (pre.map booV) ∧ (pre = [] → v = .slice none 0 0))) ∧ ((Boxed W w.heap.size 23 (.slice none 0 0) ∧ Boxed W (w.heap.size + 1) 41 (.slice none 0 0)) ∧ Boxed W (w.heap.size + 1 + 1) 24 (.int .i64 0))) ∧ Below w.heap.size w W ∧ (∀ x ∈ pre, (0 : Int) ≤ x.2.1))
   (fun c pre W => ((Boxed W w.heap.size 23 (.slice none 0 0) ∧ Boxed W (w.heap.size + 1) 41 (.slice none 0 0)) ∧ Boxed W (w.heap.size + 1 + 1) 24 (.int .i64 250)) ∧ Below w.heap.size w W ∧ (c = .ret ∧ ∃ x ∈ pre, x.2.1 < 0))
   (OwnFrom.and (OwnFrom.and (OwnFrom.and (Own.from (holdsRow_own _ _ _ _ _ _ _ _) _) (Own.from (holdsRow_own _ _ _ _ _ _ _ _) _)) (OwnFrom.and (OwnFrom.and (Own.from (boxed_own _ _ _) _) (Own.from (boxed_own _ _ _) _)) (Own.from (boxed_own _ _ _) _))) (OwnFrom.and (ownFrom_below (Nat.le_refl _) (by omega)) (ownFrom_pure _ _)))
   (fun c => OwnFrom.and (OwnFrom.and (OwnFrom.and (Own.from (boxed_own _ _ _) _) (Own.from (boxed_own _ _ _) _)) (Own.from (boxed_own _ _ _) _)) (OwnFrom.and (ownFrom_below (Nat.le_refl _) (by omega)) (ownFrom_pure _ _)))
   ⟨⟨⟨⟨_, x6, World.ownsRow_nil _ _ _ _, by simp [Value.ownBlock], fun _ => rfl⟩, ⟨_, x7, World.ownsRow_nil _ _ _ _, fun _ => rfl⟩⟩, ⟨x2, x3⟩, x4⟩, hB0, fun x hx => by cases hx⟩
   (fun x a' W => ∃ Bx, w1.heap.size + 1 < Bx ∧ Box3 W Bx x ∧ a' = { tmps := #[.string s, undef, .pointer (some ⟨w.heap.size, 0, none⟩), .pointer (some ⟨w.heap.size + 1, 0, none⟩), .pointer (some ⟨w.heap.size + 1 + 1, 0, none⟩), .int .i64 0, .pointer (some ⟨w1.heap.size, 0, none⟩), .pointer (some ⟨w1.heap.size + 1, 0, none⟩), .pointer (some ⟨Bx, 0, none⟩), .string s, .int .i64 0, .int .i64 0, .bool false, undef, .string s, .func (.func 79) #[] #[.pointer (some ⟨w1.heap.size + 1 + 1, 0, none⟩)], .agg #[.string x.1, .int .i64 x.2.1, .bool x.2.2], undef, undef, undef, undef, undef, undef, undef, undef, undef, undef, undef, undef, undef, undef, undef], defers := [] })
   (fun x a' _ X Y row hs hg hr => by obtain ⟨Bx, h1, h2, h3⟩ := hs; exact ⟨Bx, h1, h2.kept hg (fun e => by obtain ⟨_, o, ho, hc⟩ := hr Bx e.symm; rw [show X.heap[Bx]? = _ from h2] at ho; cases ho; cases hc), h3⟩)
   ?assign ?body ?done ?stop
  case assign =>
   rintro l pre ⟨t, a, q⟩ W K hI hK
   dsimp only [encW]
   gi_wp2
   obtain ⟨⟨⟨⟨v, hv, hrow, hvB, hv0⟩, ⟨u, hu, hrow2, hu0⟩⟩, ⟨y2, y3⟩, y4⟩, hB, hpos⟩ := hI
   exact hK _ _ ((KeepsOthers.alloc _ _).from _) ⟨(Below.refl _ W).alloc hB.size _, fun hx => hx.alloc _⟩ ⟨⟨⟨⟨v, hv.alloc _, hrow.alloc _, hvB, hv0⟩, ⟨u, hu.alloc _, hrow2.alloc _, hu0⟩⟩, ⟨y2.alloc _, y3.alloc _⟩, y4.alloc _⟩, hB.alloc hB.size _, hpos⟩ ⟨W.heap.size, hu.lt, World.alloc_heap_new W _, rfl⟩
  case body =>
   rintro l pre x a' W hl ⟨r, hr⟩ ⟨⟨⟨⟨v, hv, hrow, hvB, hv0⟩, ⟨u, hu, hrow2, hu0⟩⟩, ⟨y2, y3⟩, y4⟩, hB, hpos⟩ ⟨Bx, hBx, bX, rfl⟩ hlt
   have cX0 := bX.c0
   have cX1 := bX.c1
   have cX2 := bX.c2
   have cV := hv.cell
   have cU := hu.cell
   have d2 := y2.cell
   have d3 := y3.cell
   have d4 := y4.cell
   have e2 := y2.frozen
   have e3 := y3.frozen
   have e4 := y4.frozen
   gi_wp2
   ·-- the error
    have hneg : x.2.1 < 0 := by assumption
    refine ⟨(((KeepsOthers.setCell W _ _).trans (KeepsOthers.setCell _ _ _)).trans (KeepsOthers.setCell _ _ _)).from _, ⟨⟨?_, ?_⟩, ?_⟩, ?_, rfl, x, by simp, hneg⟩
    ·exact ((y2.set _).other (by omega) _).other (by omega) _
    ·exact ((y3.other (by omega) _).set _).other (by omega) _
    ·exact ((y4.other (by omega) _).other (by omega) _).set _
    ·exact ((hB.setCell (p := ⟨w.heap.size, 0, none⟩) (Nat.le_refl _) _).setCell (p := ⟨w.heap.size + 1, 0, none⟩) (by simp) _).setCell (p := ⟨w.heap.size + 1 + 1, 0, none⟩) (by simp; omega) _
   ·-- a word
    have hpo : 0 ≤ x.2.1 := by assumption
    have hxlt := bX.lt
    refine region_inv (Inv := fun listed a w' => ∃ t20 t21 t22 t23 t24 t25 t26 t27 t28 t29, a = actB w.heap.size w1.heap.size Bx s x t20 t21 t22 t23 t24 t25 t26 t27 t28 t29 ∧ RIn w.heap.size w1.heap.size (w1.heap.size + 1) (w1.heap.size + 1 + 1) Bx x v u pre.length (pre.map strV) (pre.map booV) W (fun j => listed.getD j false) t20 t21 t22 t23 t24 t25 t26 t27 t28 t29 w') (by kernel_rfl) (fun ⟨_, _, h⟩ => h) (by kernel_rfl) (by kernel_rfl) ?step ?fin ?start
    case start =>
     refine ⟨undef, undef, undef, undef, undef, undef, undef, undef, undef, undef, rfl, RIn.drew ?_⟩
     have hb0 : ∀ j, (Array.replicate 12 false).getD j false = false := fun j => by
      by_cases hj : j < 12
      ·simp [Array.getD, hj]
      ·simp [Array.getD, hj]
     have no : ∀ (j : Nat) (p : Prop), (Array.replicate 12 false).getD j false = true → p := fun j p hh => by rw [hb0 j] at hh; cases hh
     refine ⟨fun hh => no _ _ hh, fun hh => no _ _ hh, fun hh => no _ _ hh, fun hh => no _ _ hh, fun hh => no _ _ hh, fun hh => no _ _ hh, fun hh => no _ _ hh, fun hh => no _ _ hh, fun _ => hrow, fun hh => no _ _ hh, fun _ => hrow2, fun hh => no _ _ hh, ?_, ?_, bX, KeepsOthers.refl _, Below.refl _ _, fun _ _ _ _ _ _ _ hh => hh, fun _ hh => hh, ⟨hB.size, Nat.le_refl _⟩⟩
     ·show Boxed W w1.heap.size 23 (if (Array.replicate 12 false).getD 10 false = true then undef else v)
      rw [hb0]
      exact hv
     ·show Boxed W (w1.heap.size + 1) 41 (if (Array.replicate 12 false).getD 11 false = true then undef else u)
      rw [hb0]
      exact hu
    case fin =>
     rintro listed a w' hall ⟨t20, t21, t22, t23, t24, t25, t26, t27, t28, t29, rfl, h⟩
     have e4 : listed.getD 4 false = true := hall 4 (by decide)
     have e9 : listed.getD 9 false = true := hall 9 (by decide)
     have e10 : listed.getD 10 false = true := hall 10 (by decide)
     have e11 : listed.getD 11 false = true := hall 11 (by decide)
     have q6 := h.q6
     have q7 := h.q7
     rw [if_pos e10] at q6
     rw [if_pos e11] at q7
     obtain ⟨r4, r4b⟩ := h.r4' e4
     have r9 := h.r9' e9
     refine ⟨h.ko.from _, ⟨h.be, fun hx => h.kn _ hx⟩, ⟨⟨⟨t24, q6, ?_, r4b, fun e => by simp at e⟩, ⟨t29, q7, ?_, fun e => by simp at e⟩⟩, ⟨h.kb _ _ _ (by omega) (by omega) (by decide) (by decide) y2, h.kb _ _ _ (by omega) (by omega) (by decide) (by decide) y3⟩, h.kb _ _ _ (by omega) (by omega) (by decide) (by decide) y4⟩, hB.trans h.be, fun z hz => ?_⟩
     ·rw [List.length_append, List.map_append]; exact r4
     ·rw [List.length_append, List.map_append]; exact r9
     ·rcases List.mem_append.1 hz with hz | hz
      ·exact hpos z hz
      ·simp at hz; rw [hz]; exact hpo
    case step =>
     rintro listed a w' i hs hc hi ⟨t20, t21, t22, t23, t24, t25, t26, t27, t28, t29, rfl, h⟩
     obtain ⟨h1, oi, ho, hall⟩ := mem_ready.1 hi
     have hlt : i < 12 := (Array.getElem?_eq_some_iff.1 ho).1
     have hbf : (fun j => (listed.setIfInBounds i true).getD j false) = updB i (fun j => listed.getD j false) := by
      funext j
      unfold updB
      by_cases e : j = i
      ·subst e
       rw [if_pos rfl]
       have : j < listed.size := by rw [hs]; exact hlt
       simp [Array.getD, this]
      ·rw [if_neg e, getD_set_ne false (Ne.symm e)]
     have hbi : listed.getD i false = false := by
      rw [← getD_flip (by rw [hs]; exact hlt)]; exact h1
     rw [hbf]
     have d := hall
     have hcases : i = 0 ∨ i = 1 ∨ i = 2 ∨ i = 3 ∨ i = 4 ∨ i = 5 ∨ i = 6 ∨ i = 7 ∨ i = 8 ∨ i = 9 ∨ i = 10 ∨ i = 11 := by omega
     rcases hcases with rfl | rfl | rfl | rfl | rfl | rfl | rfl | rfl | rfl | rfl | rfl | rfl
     ·cases ho
      have n10 : listed.getD 10 false = false := by
       cases hh : listed.getD 10 false with
       | false => rfl
       | true => exact absurd (hc 10 _ rfl hh { on := 0, ground := .phase } (by simp) rfl) (by rw [hbi]; decide)
      have q6 : Boxed w' w1.heap.size 23 (if listed.getD 10 false = true then t24 else v) := h.q6
      simp only [n10, Bool.false_eq_true, if_false] at q6
      have c6 := q6.cell
      refine op_value (v := v) (w' := w') rfl rfl ?_ ⟨v, t21, t22, t23, t24, t25, t26, t27, t28, t29, rfl, h.s0⟩
      unfold actB
      go_simp
     ·cases ho
      refine op_value (v := .pointer (some ⟨Bx, 0, none⟩)) (w' := w') rfl rfl ?_ ⟨t20, _, t22, t23, t24, t25, t26, t27, t28, t29, rfl, h.s1⟩
      unfold actB
      go_simp
     ·cases ho
      obtain rfl := h.f1 (hall { on := 1, ground := .data } (by simp) rfl)
      have cx := h.qx.c0
      refine op_value (v := .string x.1) (w' := w') rfl rfl ?_ ⟨t20, _, _, t23, t24, t25, t26, t27, t28, t29, rfl, h.s2⟩
      unfold actB
      go_simp
     ·cases ho
      obtain rfl := h.f2 (hall { on := 2, ground := .data } (by simp) rfl)
      refine op_value (v := .slice (some ⟨w'.heap.size, 0, none⟩) 1 1) (w' := w'.alloc (.cells #[.string x.1] 9)) rfl rfl ?_ ⟨t20, t21, _, _, t24, t25, t26, t27, t28, t29, rfl, h.s3⟩
      unfold actB
      go_simp
     ·cases ho
      have n10 : listed.getD 10 false = false := by
       cases hh : listed.getD 10 false with
       | false => rfl
       | true => exact absurd (hc 10 _ rfl hh { on := 4, ground := .data } (by simp) rfl) (by rw [hbi]; decide)
      obtain rfl := h.f0 (hall { on := 0, ground := .data } (by simp) rfl)
      obtain ⟨g, rfl, hg⟩ := h.f3 (hall { on := 3, ground := .data } (by simp) rfl) hbi
      have hz := infoS
      rw [Option.map_eq_some_iff] at hz
      obtain ⟨inf, hi1, hi2⟩ := hz
      simp only [Prod.mk.injEq] at hi2
      refine op_append (P := Tryz.prog) rfl rfl (.tmp 20) (.tmp 23) 23 rfl w.heap.size 9 inf (.string .empty) 1 16 (by kernel_rfl) hi1 hi2.1 hi2.2.1 hi2.2.2 rfl (by decide) t20 pre.length (pre.map strV) rfl (h.r4 hbi) ⟨g, 0, none⟩ 1 1 [.string x.1] rfl rfl (fun j y hj => ?_) (fun y hy => by simp at hy; subst hy; rfl) (by simp only [maxLen]; omega) (by omega) (Nat.le_trans h.sz.1 h.sz.2) fun v' w2 k1 k2 k3 => ⟨t20, t21, t22, _, v', t25, t26, t27, t28, t29, rfl, h.s4 hbi n10 k1 k2 k3 hvB (by omega)⟩
      match j, hj with
      | 0, hj =>
       simp at hj
       subst hj
       exact hg.cell
     ·cases ho
      have n11 : listed.getD 11 false = false := by
       cases hh : listed.getD 11 false with
       | false => rfl
       | true => exact absurd (hc 11 _ rfl hh { on := 5, ground := .phase } (by simp) rfl) (by rw [hbi]; decide)
      have q7 : Boxed w' (w1.heap.size + 1) 41 (if listed.getD 11 false = true then t29 else u) := h.q7
      simp only [n11, Bool.false_eq_true, if_false] at q7
      have c7 := q7.cell
      refine op_value (v := u) (w' := w') rfl rfl ?_ ⟨t20, t21, t22, t23, t24, u, t26, t27, t28, t29, rfl, h.s5⟩
      unfold actB
      go_simp
     ·cases ho
      refine op_value (v := .pointer (some ⟨Bx, 2, none⟩)) (w' := w') rfl rfl ?_ ⟨t20, t21, t22, t23, t24, t25, _, t27, t28, t29, rfl, h.s6⟩
      unfold actB
      go_simp
     ·cases ho
      obtain rfl := h.f6 (hall { on := 6, ground := .data } (by simp) rfl)
      have cx := h.qx.c2
      refine op_value (v := .bool x.2.2) (w' := w') rfl rfl ?_ ⟨t20, t21, t22, t23, t24, t25, _, _, t28, t29, rfl, h.s7⟩
      unfold actB
      go_simp
     ·cases ho
      obtain rfl := h.f7 (hall { on := 7, ground := .data } (by simp) rfl)
      refine op_value (v := .slice (some ⟨w'.heap.size, 0, none⟩) 1 1) (w' := w'.alloc (.cells #[.bool x.2.2] 4)) rfl rfl ?_ ⟨t20, t21, t22, t23, t24, t25, t26, _, _, t29, rfl, h.s8⟩
      unfold actB
      go_simp
     ·cases ho
      have n11 : listed.getD 11 false = false := by
       cases hh : listed.getD 11 false with
       | false => rfl
       | true => exact absurd (hc 11 _ rfl hh { on := 9, ground := .data } (by simp) rfl) (by rw [hbi]; decide)
      have l4 : listed.getD 4 false = true := hall { on := 4, ground := .chain } (by simp) rfl
      obtain rfl := h.f5 (hall { on := 5, ground := .data } (by simp) rfl)
      obtain ⟨g, rfl, hg⟩ := h.f8 (hall { on := 8, ground := .data } (by simp) rfl) hbi
      have hz := infoB
      rw [Option.map_eq_some_iff] at hz
      obtain ⟨inf, hi1, hi2⟩ := hz
      simp only [Prod.mk.injEq] at hi2
      refine op_append (P := Tryz.prog) rfl rfl (.tmp 25) (.tmp 28) 41 rfl w.heap.size 4 inf (.bool false) 1 1 (by kernel_rfl) hi1 hi2.1 hi2.2.1 hi2.2.2 rfl (by decide) t25 pre.length (pre.map booV) rfl (h.r9 hbi) ⟨g, 0, none⟩ 1 1 [.bool x.2.2] rfl rfl (fun j y hj => ?_) (fun y hy => by simp at hy; subst hy; rfl) (by simp only [maxLen]; omega) (by omega) (Nat.le_trans h.sz.1 h.sz.2) fun v' w2 k1 k2 k3 => ⟨t20, t21, t22, t23, t24, t25, t26, t27, _, v', rfl, h.s9 l4 hbi n11 k1 k2⟩
      match j, hj with
      | 0, hj =>
       simp at hj
       subst hj
       exact hg.cell
     ·cases ho
      have l4 : listed.getD 4 false = true := hall { on := 4, ground := .data } (by simp) rfl
      have l9 : listed.getD 9 false = true := hall { on := 9, ground := .chain } (by simp) rfl
      have c6 := h.q6.cell
      have e6 := h.q6.frozen
      refine op_skip (w' := w'.setCell ⟨w1.heap.size, 0, none⟩ t24) rfl rfl ?_ ⟨t20, t21, t22, t23, t24, t25, t26, t27, t28, t29, rfl, h.s10 l4 l9 (by omega) (by omega) (by omega) (by omega)⟩
      unfold actB
      rcases (h.r4' l4).1.2 with ⟨rfl, _⟩ | ⟨g, cap, cur, rfl, _⟩ <;> go_simp
     ·cases ho
      have l4 : listed.getD 4 false = true := hall { on := 4, ground := .phase } (by simp) rfl
      have l9 : listed.getD 9 false = true := hall { on := 9, ground := .data } (by simp) rfl
      have c7 := h.q7.cell
      have e7 := h.q7.frozen
      refine op_skip (w' := w'.setCell ⟨w1.heap.size + 1, 0, none⟩ t29) rfl rfl ?_ ⟨t20, t21, t22, t23, t24, t25, t26, t27, t28, t29, rfl, h.s11 l4 l9 (by omega) (by omega) (by omega) (by omega)⟩
      unfold actB
      rcases (h.r9' l9).2 with ⟨rfl, _⟩ | ⟨g, cap, cur, rfl, _⟩ <;> go_simp
  case done =>
   rintro D xs W hD hS ⟨⟨⟨⟨v, hv, hrow, hvB, hv0⟩, ⟨u, hu, hrow2, hu0⟩⟩, ⟨y2, y3⟩, y4⟩, hB, hpos⟩ hK
   have hws : WsR s.data.toList 0 (some (shows xs)) := by
    rcases hS with ⟨p, hp, hfin⟩ | ⟨pre, p, fr, t, rfl, _, _⟩
    ·simpa using hp.ws (.fin hfin)
    ·exact absurd (hpos (t, -1, true) (by simp)) (show ¬ (0 : Int) ≤ -1 by decide)
   have cV := hv.cell
   have cU := hu.cell
   have d2 := y2.cell
   have d3 := y3.cell
   have d4 := y4.cell
   have e2 := y2.frozen
   have e3 := y3.frozen
   have e4 := y4.frozen
   gi_wp2
   have hLet : ¬ LetsOut (bodyPostM Fence.wide 6 Tryz.prog Tryz.f19 fun e W' => WOut s w e W') := fun ⟨_, _, hh⟩ => by
    rcases hh.2 with ⟨_, hh⟩ | ⟨_, _, hh⟩ | ⟨_, _, _, _, _, _, _, _, hh⟩ <;> cases hh
   refine region_invW (Inv := fun listed a w' => ∃ t30 t31, a = actE w.heap.size w1.heap.size D s t30 t31 ∧ SIn w.heap.size w1.heap.size v u xs.length (xs.map strV) (xs.map booV) W (fun j => listed.getD j false) t30 t31 w') (by kernel_rfl) (fun ⟨a, w', h⟩ => hLet ⟨a, w', h⟩) (by kernel_rfl) (by kernel_rfl) ?step ?fin ?start
   case start =>
    refine ⟨undef, undef, rfl, SIn.drew ?_⟩
    have hb0 : ∀ j, (Array.replicate 5 false).getD j false = false := fun j => by
     by_cases hj : j < 5
     ·simp [Array.getD, hj]
     ·simp [Array.getD, hj]
    have no : ∀ (j : Nat) (p : Prop), (Array.replicate 5 false).getD j false = true → p := fun j p hh => by rw [hb0 j] at hh; cases hh
    refine ⟨fun hh => no _ _ hh, fun hh => no _ _ hh, ?_, ?_, y4, hv, hu, hrow, hrow2, KeepsOthers.refl _, Below.refl _ _⟩
    ·show Boxed W w.heap.size 23 (if (Array.replicate 5 false).getD 2 false = true then v else .slice none 0 0)
     rw [hb0]
     exact y2
    ·show Boxed W (w.heap.size + 1) 41 (if (Array.replicate 5 false).getD 3 false = true then u else .slice none 0 0)
     rw [hb0]
     exact y3
   case fin =>
    rintro listed a w' hall ⟨t30, t31, rfl, h⟩
    have e2 : listed.getD 2 false = true := hall 2 (by decide)
    have e3 : listed.getD 3 false = true := hall 3 (by decide)
    have p2 := h.p2
    have p3 := h.p3
    rw [if_pos e2] at p2
    rw [if_pos e3] at p3
    have hK' := h.ko.same D _ hK rfl
    unfold actE
    gi_wp2
    refine ⟨by simp, .inl ⟨_, _, rfl, run_takeDeferred hK', ?_⟩⟩
    have gb := grownBy_putObj' w' D (.deferred none)
    have q2 := p2.kept gb (fun e => by cases e; omega)
    have q3 := p3.kept gb (fun e => by cases e; omega)
    have q4 := h.p4.kept gb (fun e => by cases e; omega)
    have nD : ∀ {e size k : Nat} {x : Value} {ys : List Value}, w'.ownsRow w.heap.size e size x k ys → x.ownBlock = none ∨ x.ownBlock ≠ some D := fun {e size k x ys} hr => by
     rcases hr.2 with ⟨rfl, _⟩ | ⟨g, cap, cur, rfl, _, hgb, _⟩
     ·exact .inl rfl
     ·refine .inr fun e' => ?_
      obtain rfl : g = D := by simpa [Value.ownBlock] using e'
      rw [hgb] at hK'
      cases hK'
    refine ⟨_, words_results rfl rfl rfl q2.cell q3.cell q4.cell, ?_, .inr (.inr ⟨hr0, xs, v, u, hws, fun hx => ⟨hv0 hx, hu0 hx⟩, h.rv.kept gb (nD h.rv), h.ru.kept gb (nD h.ru), rfl⟩)⟩
    exact (hB.trans h.be).trans (belowK_b (w := w) (Nat.le_refl _) w' D _ _ (by omega) hK' rfl rfl)
   case step =>
    rintro listed a w' i hs hc hi ⟨t30, t31, rfl, h⟩
    obtain ⟨h1, oi, ho, hall⟩ := mem_ready.1 hi
    have hlt : i < 5 := (Array.getElem?_eq_some_iff.1 ho).1
    have hbf : (fun j => (listed.setIfInBounds i true).getD j false) = updB i (fun j => listed.getD j false) := by
     funext j
     unfold updB
     by_cases e : j = i
     ·subst e
      rw [if_pos rfl]
      have : j < listed.size := by rw [hs]; exact hlt
      simp [Array.getD, this]
     ·rw [if_neg e, getD_set_ne false (Ne.symm e)]
    rw [hbf]
    have hcases : i = 0 ∨ i = 1 ∨ i = 2 ∨ i = 3 ∨ i = 4 := by omega
    have c6 := h.p6.cell
    have c7 := h.p7.cell
    have cc2 := h.p2.cell
    have cc3 := h.p3.cell
    have cc4 := h.p4.cell
    have g2 := h.p2.frozen
    have g3 := h.p3.frozen
    have g4 := h.p4.frozen
    rcases hcases with rfl | rfl | rfl | rfl | rfl
    ·cases ho
     refine op_value (v := v) (w' := w') rfl rfl ?_ ⟨v, t31, rfl, h.s0⟩
     unfold actE
     go_simp
    ·cases ho
     refine op_value (v := u) (w' := w') rfl rfl ?_ ⟨t30, u, rfl, h.s1⟩
     unfold actE
     go_simp
    ·cases ho
     obtain rfl := h.f0 (hall { on := 0, ground := .data } (by simp) rfl)
     refine op_skip (w' := w'.setCell ⟨w.heap.size, 0, none⟩ t30) rfl rfl ?_ ⟨t30, t31, rfl, h.s2 (by omega)⟩
     unfold actE
     rcases h.rv.2 with ⟨rfl, _⟩ | ⟨g, cap, cur, rfl, _⟩ <;> go_simp
    ·cases ho
     obtain rfl := h.f1 (hall { on := 1, ground := .data } (by simp) rfl)
     refine op_skip (w' := w'.setCell ⟨w.heap.size + 1, 0, none⟩ t31) rfl rfl ?_ ⟨t30, t31, rfl, h.s3 (by omega)⟩
     unfold actE
     rcases h.ru.2 with ⟨rfl, _⟩ | ⟨g, cap, cur, rfl, _⟩ <;> go_simp
    ·cases ho
     refine op_skip (w' := w'.setCell ⟨w.heap.size + 1 + 1, 0, none⟩ (.int .i64 0)) rfl rfl ?_ ⟨t30, t31, rfl, h.s4 (by omega)⟩
     unfold actE
     go_simp
  case stop =>
   rintro D c pre W hD hpre ⟨⟨⟨y2, y3⟩, y4⟩, hB, rfl, x, hx, hneg⟩ hK
   have hws : WsR s.data.toList 0 none := by
    rcases hpre with ⟨p, hp⟩ | ⟨pre', p, fr, t, rfl, hp, hbad⟩
    ·have := hp.le.2.2 x hx
     omega
    ·simpa using hp.ws (.bad hbad)
   gi_wp2
   refine ⟨by simp, .inl ⟨_, _, rfl, run_takeDeferred hK, ?_⟩⟩
   have gb := grownBy_putObj' W D (.deferred none)
   have q2 := y2.kept gb (fun e => by cases e; omega)
   have q3 := y3.kept gb (fun e => by cases e; omega)
   have q4 := y4.kept gb (fun e => by cases e; omega)
   refine ⟨_, words_results rfl rfl rfl q2.cell q3.cell q4.cell, ?_, .inr (.inl ⟨hr0, hws, rfl⟩)⟩
   exact hB.trans (belowK_b (w := w) (Nat.le_refl _) W D _ _ (by omega) hK rfl rfl)
end Go.Proofs.YtjomiadmminhfaaGreatDoor
end
section
set_option linter.unusedSimpArgs false
set_option linter.unusedVariables false
set_option maxRecDepth 10000
set_option linter.unusedSectionVars false
namespace Go.Proofs.YtjomiadmminhfaaGreatDoor
open Go.Am
open Go.RowKit (Below)

open Classical in
noncomputable def wordsO (L : List UInt8) : Option (List (List UInt8 × Bool)) := if h : ∃ r, WsR L 0 r then Classical.choose h else none
theorem wordsO_eq {L : List UInt8} {r : Option (List (List UInt8 × Bool))} (h : WsR L 0 r) : wordsO L = r := by
 unfold wordsO
 have hx : ∃ r, WsR L 0 r := ⟨r, h⟩
 rw [dif_pos hx]
 exact (Classical.choose_spec hx).unique h

def wsS (l : List (List UInt8 × Bool)) : List Value := l.map fun x => .string (bs x.1)
def wsB (l : List (List UInt8 × Bool)) : List Value := l.map fun x => .bool x.2
def nil3 (e : Int) : Value := .tuple #[.slice none 0 0, .slice none 0 0, .int .i64 e]
noncomputable def wordsK (s : ByteArray) (st : St) : Value × St :=
 if readA s ≠ 0 then (nil3 (readA s), st)
 else match wordsO s.data.toList with
  | none => (nil3 250, st)
  | some [] => (nil3 0, st)
  | some (x :: l) => (.tuple #[.slice (some ⟨st.next, 0, none⟩) (l.length + 1) (l.length + 1), .slice (some ⟨st.next + 1, 0, none⟩) (l.length + 1) (l.length + 1), .int .i64 0], (st.new (.row (wsS (x :: l)) 1 false)).new (.row (wsB (x :: l)) 1 false))

theorem nil3_rel {μ : Nat → Spot} {n : Nat} (e : Int) : VR μ n (nil3 e) (nil3 e) := .tuple _ _ (.cons _ _ _ _ .nilSlice (.cons _ _ _ _ .nilSlice (.cons _ _ _ _ (.int _ _) .nil)))

/-- a row of plain values that a call has left -/
theorem Rel.named {B0 : Nat} {W0 w : World} {μ : Nat → Spot} {s : St} (h : Rel B0 W0 μ s w) {cs : List Value} {e : TypeId} {v : Value} {b0 : Nat} (hb0 : B0 ≤ b0) (hrow : w.ownsRow b0 e 1 v cs.length cs) (hcs : ∀ (μ : Nat → Spot) (n : Nat), VRs μ n cs cs) (hne : v ≠ .slice none 0 0)
  (hal : ∀ j oj, s.get j = some oj → some (μ j).block ≠ v.ownBlock) :
  ∃ sp : Spot, v.ownBlock = some sp.block ∧ Rel B0 W0 (upd μ s.next sp) (s.new (.row cs 1 false)) w ∧ VR (upd μ s.next sp) (s.next + 1) (.slice (some ⟨s.next, 0, none⟩) cs.length cs.length) v := by
 rcases hrow.2 with ⟨rfl, _⟩ | ⟨g, cap, cur, rfl, hbg, hgb, hcap, _, hsz, htk⟩
 ·exact (hne rfl).elim
 rw [Nat.mul_one] at hsz htk
 have hlt : g < w.heap.size := (Array.getElem?_eq_some_iff.1 hgb).1
 refine ⟨⟨g, 0, cap, 1⟩, rfl, h.rename _ ⟨g, 0, cap, 1⟩ hlt ⟨by rw [Go.Am.upd_same], ?_, fun j x hj => ?_, (fun hh => by cases hh), fun _ => ⟨?_, fun x _ hx => ?_, fun hh => by cases hh⟩⟩ (fun _ j oj hj _ => ?_), ?_⟩
 ·rw [Go.Am.upd_same]; simpa using hcap
 ·rw [Go.Am.upd_same]
  obtain ⟨x', h1, h2⟩ := (hcs (upd μ s.next ⟨g, 0, cap, 1⟩) (s.next + 1)).get hj
  refine ⟨x', ?_, h2⟩
  have : cur.toList[j]? = some x' := by
   have hjl : j < cs.length := (List.getElem?_eq_some_iff.1 hj).1
   rw [← htk, List.getElem?_take_of_lt hjl] at h1
   exact h1
  simp only [World.cell?, hgb, Nat.zero_add]
  simpa using this
 ·rw [Go.Am.upd_same]; exact Nat.le_trans hb0 hbg
 ·rw [Go.Am.upd_same] at hx ⊢
  refine ⟨?_, ?_⟩
  ·simp only [World.cell?, hgb]
   simp only at hx
   rw [Array.getElem?_eq_getElem (by omega)]
   rfl
  ·simp [World.frozen?, hgb]
 ·exact fun e => hal j oj hj (by rw [e]; rfl)
 ·have := VR.slice (μ := upd μ s.next ⟨g, 0, cap, 1⟩) (n := s.next + 1) s.next 0 0 cs.length cs.length cap (by omega) (Nat.le_refl _) hcap (fun hh => by rw [Go.Am.upd_same] at hh; cases hh) (fun _ => by rw [Go.Am.upd_same]) (by rw [Go.Am.upd_same]; exact Nat.le_refl _) (fun _ => by rw [Go.Am.upd_same]; simp)
  rw [Go.Am.upd_same] at this
  exact this

theorem wsS_rel {μ : Nat → Spot} {n : Nat} : ∀ l, VRs μ n (wsS l) (wsS l)
 | [] => .nil
 | _ :: l => .cons _ _ _ _ (.string _) (wsS_rel l)
theorem wsB_rel {μ : Nat → Spot} {n : Nat} : ∀ l, VRs μ n (wsB l) (wsB l)
 | [] => .nil
 | _ :: l => .cons _ _ _ _ (.bool _) (wsB_rel l)
theorem shows_S (xs : List WV) : xs.map strV = wsS (shows xs) := by
 simp only [wsS, shows, List.map_map]
 exact List.map_congr_left fun x _ => by simp [strV, bs_of]
theorem shows_B (xs : List WV) : xs.map booV = wsB (shows xs) := by
 simp only [wsB, shows, List.map_map]
 exact List.map_congr_left fun x _ => rfl

theorem words_ok {s : ByteArray} {st : St} {Q : Value × St → Prop} (hm : hasMax st = true) (h : Q (wordsK s st)) : CallOk Tryz.prog 19 [.string s] st Q := by
 intro B0 W0 μ w args hr hg ha
 rw [ha.str1]
 obtain ⟨m, hm1⟩ := max_cell hr hg hm
 have h0 : 0 < w.heap.size := by
  unfold hasMax at hm
  split at hm
  ·rename_i m' g ro hget
   have := (hr.known 0 _ hget).2.1
   omega
  ·cases hm
 refine (words_walk s w m hm1 h0).mono fun e w' hw => ?_
 obtain ⟨hb, hw⟩ := hw
 have hr' : Rel B0 W0 μ st w' := hr.later hb
 rcases hw with ⟨h1, rfl⟩ | ⟨h1, h2, rfl⟩ | ⟨h1, xs, v, u, h2, h3, h4, h5, rfl⟩
 ·have e : wordsK s st = (nil3 (readA s), st) := by unfold wordsK; rw [if_pos h1]
  rw [e] at h
  exact ⟨_, _, _, h, rfl, μ, Agree.refl _ _, hr', nil3_rel _⟩
 ·have e : wordsK s st = (nil3 250, st) := by unfold wordsK; rw [if_neg (by rw [h1]; decide), wordsO_eq h2]
  rw [e] at h
  exact ⟨_, _, _, h, rfl, μ, Agree.refl _ _, hr', nil3_rel _⟩
 ·rw [shows_S] at h4
  rw [shows_B] at h5
  have hl : xs.length = (shows xs).length := by simp [shows]
  have hl1 : xs.length = (wsS (shows xs)).length := by simp [shows, wsS]
  have hl2 : xs.length = (wsB (shows xs)).length := by simp [shows, wsB]
  cases hx : shows xs with
  | nil =>
   have hxs : xs = [] := by
    rw [hx] at hl
    exact List.length_eq_zero_iff.1 hl
   obtain ⟨rfl, rfl⟩ := h3 hxs
   rw [hx] at h2
   have e : wordsK s st = (nil3 0, st) := by unfold wordsK; rw [if_neg (by rw [h1]; decide), wordsO_eq h2]
   rw [e] at h
   exact ⟨_, _, _, h, rfl, μ, Agree.refl _ _, hr', nil3_rel _⟩
  | cons x l =>
   rw [hl1] at h4
   rw [hl2] at h5
   rw [hx] at h2 h4 h5
   have e : wordsK s st = (.tuple #[.slice (some ⟨st.next, 0, none⟩) (l.length + 1) (l.length + 1), .slice (some ⟨st.next + 1, 0, none⟩) (l.length + 1) (l.length + 1), .int .i64 0], (st.new (.row (wsS (x :: l)) 1 false)).new (.row (wsB (x :: l)) 1 false)) := by
    unfold wordsK; rw [if_neg (by rw [h1]; decide), wordsO_eq h2]
   rw [e] at h
   have hv : v ≠ .slice none 0 0 := by
    rintro rfl
    rcases h4.2 with ⟨_, hh⟩ | ⟨g, cap, cur, hh, _⟩
    ·simp [wsS] at hh
    ·cases hh
   have hu : u ≠ .slice none 0 0 := by
    rintro rfl
    rcases h5.2 with ⟨_, hh⟩ | ⟨g, cap, cur, hh, _⟩
    ·simp [wsB] at hh
    ·cases hh
   have hB := hr.size
   have old : ∀ j oj, st.get j = some oj → (μ j).block < w.heap.size := fun j oj hj => (hr.known j oj hj).2.1
   obtain ⟨sp1, o1, r1, k1⟩ := Rel.named hr' hB h4 (fun μ n => wsS_rel _) hv (fun j oj hj hh => by
    have := (h4.lt _ hh.symm).1
    have := old j oj hj
    omega)
   obtain ⟨sp2, o2, r2, k2⟩ := Rel.named r1 hB h5 (fun μ n => wsB_rel _) hu (fun j oj hj hh => by
    by_cases hn : j = st.next
    ·subst hn
     rw [Go.Am.upd_same] at hh
     rcases rows_ne (by decide) h5 h4 with q | q
     ·rw [q] at hh; cases hh
     ·exact q (by rw [o1]; exact hh.symm)
    ·rw [St.get_new, if_neg (by omega)] at hj
     have e2 : upd μ st.next sp1 j = μ j := by simp [upd, hn]
     rw [e2] at hh
     have := (h5.lt _ hh.symm).1
     have := old j oj hj
     omega)
   have a1 := upd_agree (μ := μ) sp1 st.next
   have a2 := upd_agree (μ := upd μ st.next sp1) sp2 (st.next + 1)
   refine ⟨_, _, _, h, rfl, _, a1.trans a2, r2, .tuple _ _ (.cons _ _ _ _ ?_ (.cons _ _ _ _ ?_ (.cons _ _ _ _ (.int _ _) .nil)))⟩
   ·have := k1.mono a2
    simpa [wsS] using this
   ·simpa [wsB] using k2

section
variable {st : St} {K : Value → St → Prop} {M : Nat}
/-- what words there are, and the error -/
def WO (s : ByteArray) (l : List (List UInt8 × Bool)) (e : Int) : Prop :=
 (readA s ≠ 0 ∧ l = [] ∧ e = readA s) ∨ (readA s = 0 ∧ wordsO s.data.toList = none ∧ l = [] ∧ e = 250) ∨ (readA s = 0 ∧ wordsO s.data.toList = some l ∧ e = 0)
theorem WO.unique {s : ByteArray} {l l' : List (List UInt8 × Bool)} {e e' : Int} (h : WO s l e) (k : WO s l' e') : l = l' ∧ e = e' := by
 rcases h with ⟨h1, rfl, rfl⟩ | ⟨h1, h2, rfl, rfl⟩ | ⟨h1, h2, rfl⟩ <;> rcases k with ⟨k1, rfl, rfl⟩ | ⟨k1, k2, rfl, rfl⟩ | ⟨k1, k2, rfl⟩ <;>
  first | exact ⟨rfl, rfl⟩ | exact (h1 k1).elim | exact (k1 h1).elim | (rw [h2] at k2; cases k2; done) | (rw [h2] at k2; cases k2; exact ⟨rfl, rfl⟩)
end
end Go.Proofs.YtjomiadmminhfaaGreatDoor
end
