/-
  A region that draws its order, in a round of a loop over an iterator: as outside.
  The words of a line: one round of the program's loop: the two appends, in whatever order.
  The words of a line: the program's Words, walked by the kit's steps.
  What the program's Words comes to, for the second machine.
  The chapter's list of arguments, as it is changed.
  The chapter's fitted.
  The library's replacer of bytes: what it is built of.
  The library's replacer of bytes: a text is replaced.
  A text is quoted: by the program.
  A text is quoted: by the chapter.
  The chapter's Words, and ArgsWords on the second machine.
  The chapter's Fit.
-/
import Derived.OrdersHeld
import Derived.Laws.AppendOwn
import Derived.Maps.AppendAt
import Derived.Test.YtdmemibnphcedaaGreatDoorRWrdClaimPart18
import Derived.RangeFuncCalls
import Derived.Test.YtdmemibnphcedaaGreatDoorRWrdClaimPart17
section
set_option linter.unusedSimpArgs false
set_option linter.unusedVariables false
set_option maxRecDepth 10000
namespace Go.Proofs.YtdmemibnphcedaaGreatDoor
open Go.RowKit

section
variable {P : Program} {ops : Array Oper} {Q : Exit → Act → World → Prop} {l n : Nat}

def Oper.noDefer (o : Oper) : Bool := match o.op with
  | .defer _ => false
  | _ => true

theorem op_round (hL : ¬ LetsOut Q) {i : Nat} {K : Act → World → Prop} {a : Act} {w : World} (hd : ∀ o, ops[i]? = some o → Oper.noDefer o = true) (h : wpOp P ops Q i K a w) : wpOpIn (Fence.wide.inRound l) n P ops Q i K a w := by
  unfold wpOp at h
  unfold wpOpIn
  cases ho : ops[i]? with
  | none => rw [ho] at h; exact h
  | some o =>
    rw [ho] at h
    simp only at h ⊢
    have hnd := hd o ho
    have hnd' : ∀ c, o.op ≠ .defer c := fun c e => by simp [Oper.noDefer, e] at hnd
    split
    · rename_i hw
      rw [if_pos hw] at h
      rcases h with h | ⟨_, h⟩
      · unfold Oper.wp at h
        unfold Oper.wpIn
        refine ⟨fun _ _ => trivial, ?_⟩
        rw [Oper.semAt_eq _ _ _ hnd']
        generalize (execOp a.eval o).run P w = r at h
        cases r with
        | ok x w' =>
          cases x <;> simp only [Oper.upon, Oper.uponIn] at h ⊢ <;> first | exact h | (exact ⟨fun hh => by simp [Fence.wide] at hh, CallsIn.inRound l (callsIn_wide.2 h)⟩) | skip
          · exact ⟨fun hh => by simp [Fence.wide] at hh, fun c cs _ => by
              obtain ⟨v, w'', h1, h2⟩ := h c cs
              exact ⟨v, w'', h1, stepsIn_wide.2 h2⟩⟩
        | halt x w' => cases x <;> simp only [Oper.upon, Oper.uponIn] at h ⊢ <;> exact h
      · exact absurd h hL
    · rename_i hw
      rw [if_neg hw] at h
      exact ⟨fun _ _ => trivial, h⟩

theorem any_round (hL : ¬ LetsOut Q) {md : Region.Mode} (hd : ∀ (i : Nat) (o : Oper), ops[i]? = some o → Oper.noDefer o = true) : ∀ (fuel : Nat) (listed : Array Bool) (a : Act) (w : World), wpAny P md ops Q fuel listed a w → wpAnyIn (Fence.wide.inRound l) n P md ops Q fuel listed a w
  | 0, _, _, _, h => h
  | fuel + 1, _, _, _, h => ⟨h.1, fun i hi => wpOpIn_mono (fun a' w' h' => any_round hL hd fuel _ a' w' h') (op_round hL (hd i) (h.2 i hi))⟩

theorem op_wide (hL : ¬ LetsOut Q) {i : Nat} {K : Act → World → Prop} {a : Act} {w : World} (hd : ∀ o, ops[i]? = some o → Oper.noDefer o = true) (h : wpOp P ops Q i K a w) : wpOpIn Fence.wide n P ops Q i K a w := by
  unfold wpOp at h
  unfold wpOpIn
  cases ho : ops[i]? with
  | none => rw [ho] at h; exact h
  | some o =>
    rw [ho] at h
    simp only at h ⊢
    have hnd := hd o ho
    have hnd' : ∀ c, o.op ≠ .defer c := fun c e => by simp [Oper.noDefer, e] at hnd
    split
    · rename_i hw
      rw [if_pos hw] at h
      rcases h with h | ⟨_, h⟩
      · unfold Oper.wp at h
        unfold Oper.wpIn
        refine ⟨fun _ _ => trivial, ?_⟩
        rw [Oper.semAt_eq _ _ _ hnd']
        generalize (execOp a.eval o).run P w = r at h
        cases r with
        | ok x w' =>
          cases x <;> simp only [Oper.upon, Oper.uponIn] at h ⊢ <;> first | exact h | (exact ⟨fun hh => by simp [Fence.wide] at hh, callsIn_wide.2 h⟩) | skip
          · exact ⟨fun hh => by simp [Fence.wide] at hh, fun c cs _ => by
              obtain ⟨v, w'', h1, h2⟩ := h c cs
              exact ⟨v, w'', h1, stepsIn_wide.2 h2⟩⟩
        | halt x w' => cases x <;> simp only [Oper.upon, Oper.uponIn] at h ⊢ <;> exact h
      · exact absurd h hL
    · rename_i hw
      rw [if_neg hw] at h
      exact ⟨fun _ _ => trivial, h⟩

theorem any_wide (hL : ¬ LetsOut Q) {md : Region.Mode} (hd : ∀ (i : Nat) (o : Oper), ops[i]? = some o → Oper.noDefer o = true) : ∀ (fuel : Nat) (listed : Array Bool) (a : Act) (w : World), wpAny P md ops Q fuel listed a w → wpAnyIn Fence.wide n P md ops Q fuel listed a w
  | 0, _, _, _, h => h
  | fuel + 1, _, _, _, h => ⟨h.1, fun i hi => wpOpIn_mono (fun a' w' h' => any_wide hL hd fuel _ a' w' h') (op_wide hL (hd i) (h.2 i hi))⟩

theorem op_value {i : Nat} {o : Oper} {K : Act → World → Prop} {a : Act} {w w' : World} {v : Value} (hi : ops[i]? = some o) (hg : o.guard = none) (hrun : (execOp a.eval o).run P w = .ok (.value v) w') (hK : K (a.put o.dst v) w') : wpOp P ops Q i K a w := by
  unfold wpOp
  simp only [hi, Region.wanted, hg, if_true, Oper.wp, hrun, Oper.upon]
  exact .inl hK
theorem op_skip {i : Nat} {o : Oper} {K : Act → World → Prop} {a : Act} {w w' : World} (hi : ops[i]? = some o) (hg : o.guard = none) (hrun : (execOp a.eval o).run P w = .ok .skip w') (hK : K (a.put o.dst undef) w') : wpOp P ops Q i K a w := by
  unfold wpOp
  simp only [hi, Region.wanted, hg, if_true, Oper.wp, hrun, Oper.upon]
  exact .inl hK

theorem op_append {i : Nat} {o : Oper} {K : Act → World → Prop} {a : Act} {w : World} (hi0 : ops[i]? = some o) (hgd : o.guard = none) (s x : Operand) (t : TypeId)
    (ho : o.op = .call { callee := .builtin .append, args := #[s, x], argTypes := #[t, t] })
    (base : Nat) (e : TypeId) (inf : TypeInfo) (z : Value) (size bytes : Nat) (ht : P.underlying t = some (.slice e)) (hi : P.info? e = some inf) (hz : inf.zero = some z)
    (hsize : inf.size = size) (hby : inf.bytes = bytes) (hzs : z.cells.size = size) (hsz : 0 < size)
    (v : Value) (k : Nat) (xs : List Value) (hs : a.eval s = v) (hown : w.ownsRow base e size v k xs)
    (ad : Addr) (m c : Nat) (news : List Value) (hx : a.eval x = .slice (some ad) m c) (hl : news.length = m * size) (hnews : ∀ j u, news[j]? = some u → w.cell? (ad.add j) = some u) (h1 : ∀ u ∈ news, u.oneCell' = true)
    (h63 : k + m ≤ maxLen) (hbytes : (k + m) * bytes ≤ 140737488355328) (hbase : base ≤ w.heap.size)
    (h : ∀ v' w', w'.ownsRow base e size v' (k + m) (xs ++ news) → w.grownBy w' v.ownBlock → (v'.ownBlock = v.ownBlock ∨ v'.ownBlock = some w.heap.size) → K (a.put o.dst v') w') :
    wpOp P ops Q i K a w := by
  obtain ⟨v', w', hr, h2, h3, _, h5⟩ := run_append_own_at (P := P) w base t o.type e inf z size bytes ht hi hz hsize hby hzs hsz v k xs hown ad m c news hl hnews h1 h63 hbytes hbase
  refine op_value hi0 hgd (v := v') (w' := w') ?_ (h v' w' h2 h3 h5)
  unfold execOp
  simp only [ho, resolve, invoke, builtin, Sem.run_bind, Sem.run_pure, Result.andThen_ok, List.map_toArray, List.map_cons, List.map_nil, hs, hx, hr]

/-- what has come up has come behind what it waits for -/
def ClosedR (md : Region.Mode) (ops : Array Oper) (listed : Array Bool) : Prop := ∀ (k : Nat) (ok : Oper), ops[k]? = some ok → listed.getD k false = true → ∀ e ∈ ok.after, Region.binds md e = true → listed.getD e.on false = true

theorem getD_flip {listed : Array Bool} {i : Nat} (h : i < listed.size) : listed.getD i true = listed.getD i false := by
  simp [Array.getD, h]
theorem closed_set {md : Region.Mode} {listed : Array Bool} {i : Nat} (hs : listed.size = ops.size) (hc : ClosedR md ops listed) (hi : i ∈ Region.ready md ops listed) : ClosedR md ops (listed.setIfInBounds i true) := by
  obtain ⟨h1, oi, ho, hall⟩ := mem_ready.1 hi
  have hlt : i < listed.size := by
    rw [hs]; exact (Array.getElem?_eq_some_iff.1 ho).1
  have keep : ∀ j, listed.getD j false = true → (listed.setIfInBounds i true).getD j false = true := fun j hj => getD_set_true hj
  intro k ok hk hl e he hb
  by_cases hki : k = i
  · subst hki
    rw [ho] at hk
    cases hk
    exact keep _ (hall e he hb)
  · rw [getD_set_ne false (Ne.symm hki)] at hl
    exact keep _ (hc k ok hk hl e he hb)

theorem any_inv {md : Region.Mode} {Inv : Array Bool → Act → World → Prop} (htop : ∀ (i : Nat) (o : Oper), ops[i]? = some o → ∀ e ∈ o.after, Region.binds md e = true → e.on < i)
    (hstep : ∀ (listed : Array Bool) (a : Act) (w : World) (i : Nat), listed.size = ops.size → ClosedR md ops listed → i ∈ Region.ready md ops listed → Inv listed a w → wpOp P ops Q i (Inv (listed.setIfInBounds i true)) a w)
    (hend : ∀ (listed : Array Bool) (a : Act) (w : World), (∀ i, i < ops.size → listed.getD i false = true) → Inv listed a w → Q .normal a w) :
    ∀ (fuel : Nat) (listed : Array Bool) (a : Act) (w : World), listed.size = ops.size → ClosedR md ops listed → listed.toList.count false ≤ fuel → Inv listed a w → wpAny P md ops Q fuel listed a w := by
  have done : ∀ (listed : Array Bool), listed.size = ops.size → Region.ready md ops listed = [] → ∀ i, i < ops.size → listed.getD i false = true := by
    intro listed hs hr i
    induction i using Nat.strongRecOn with
    | ind i ih =>
      intro hi
      cases hl : listed.getD i false with
      | true => rfl
      | false =>
        have : i ∈ Region.ready md ops listed := by
          rw [mem_ready]
          refine ⟨by rw [getD_flip (by omega)]; exact hl, ops[i], Array.getElem?_eq_getElem hi, fun e he hb => ?_⟩
          have := htop i ops[i] (Array.getElem?_eq_getElem hi) e he hb
          exact ih e.on this (by omega)
        rw [hr] at this
        cases this
  intro fuel
  induction fuel with
  | zero =>
    intro listed a w hs hc hn hI
    have hr : Region.ready md ops listed = [] := by
      rw [List.eq_nil_iff_forall_not_mem]
      intro i hi
      obtain ⟨h1, oi, ho, _⟩ := mem_ready.1 hi
      have hlt : i < listed.size := by rw [hs]; exact (Array.getElem?_eq_some_iff.1 ho).1
      have hf : listed.toList.count false = 0 := by omega
      rw [List.count_eq_zero] at hf
      refine hf ?_
      have : listed[i] = false := by simpa [Array.getD, hlt] using h1
      rw [← this]
      exact Array.getElem_mem_toList hlt
    exact ⟨hr, hend listed a w (done listed hs hr) hI⟩
  | succ fuel ih =>
    intro listed a w hs hc hn hI
    refine ⟨fun hr => hend listed a w (done listed hs hr) hI, fun i hi => ?_⟩
    refine wpOp_mono (fun a' w' hI' => ih _ a' w' (by simpa using hs) (closed_set hs hc hi) ?_ hI') (hstep listed a w i hs hc hi hI)
    obtain ⟨h1, oi, ho, _⟩ := mem_ready.1 hi
    have hlt : i < listed.size := by rw [hs]; exact (Array.getElem?_eq_some_iff.1 ho).1
    have h2 : listed[i] = false := by simpa [Array.getD, hlt] using h1
    have h3 : (listed.setIfInBounds i true).toList = listed.toList.set i true := by simp
    rw [h3, List.count_set (by simpa using hlt)]
    have h4 : listed.toList[i]'(by simpa using hlt) = false := by simpa using h2
    have h5 : 0 < listed.toList.count false := List.count_pos_iff.2 (by rw [← h4]; exact List.getElem_mem _)
    rw [h4]
    have e1 : (if (false == false) = true then 1 else 0) = 1 := rfl
    have e2 : (if (true == false) = true then 1 else 0) = 0 := rfl
    rw [e1, e2]
    omega

theorem region_inv {Inv : Array Bool → Act → World → Prop} {id : Nat} {a : Act} {w : World} (hm : P.follows .mixedOrders = true) (hL : ¬ LetsOut Q) (hd : (ops.all Oper.noDefer) = true)
    (htop : (List.range ops.size).all (fun i => (ops.getD i default).after.all fun e => !Region.binds .any e || Nat.blt e.on i) = true)
    (hstep : ∀ (listed : Array Bool) (a : Act) (w : World) (i : Nat), listed.size = ops.size → ClosedR .any ops listed → i ∈ Region.ready .any ops listed → Inv listed a w → wpOp P ops Q i (Inv (listed.setIfInBounds i true)) a w)
    (hend : ∀ (listed : Array Bool) (a : Act) (w : World), (∀ i, i < ops.size → listed.getD i false = true) → Inv listed a w → Q .normal a w)
    (h0 : Inv (Array.replicate ops.size false) a { w with drawn := w.drawn + 1 }) : (Code.region id ops true).wpIn (Fence.wide.inRound l) n P Q a w := by
  refine wpIn_region_any hm (any_round hL (fun i o ho => ?_) _ _ _ _ (any_inv (fun i o ho e he hb => ?_) hstep hend _ _ _ _ (by simp) (fun k ok hk hl => ?_) ?_ h0))
  · rw [Array.all_eq_true'] at hd
    exact hd o (Array.mem_of_getElem? ho)
  · rw [List.all_eq_true] at htop
    have h1 := htop i (List.mem_range.2 (Array.getElem?_eq_some_iff.1 ho).1)
    have h2 : ops.getD i default = o := by simp [Array.getD_eq_getD_getElem?, ho]
    rw [h2, Array.all_eq_true'] at h1
    have h3 := h1 e he
    rw [hb] at h3
    simpa using h3
  · by_cases hk2 : k < ops.size
    · simp [Array.getD, hk2] at hl
    · simp [Array.getD, hk2] at hl
  · simp
theorem region_invW {Inv : Array Bool → Act → World → Prop} {id : Nat} {a : Act} {w : World} (hm : P.follows .mixedOrders = true) (hL : ¬ LetsOut Q) (hd : (ops.all Oper.noDefer) = true)
    (htop : (List.range ops.size).all (fun i => (ops.getD i default).after.all fun e => !Region.binds .any e || Nat.blt e.on i) = true)
    (hstep : ∀ (listed : Array Bool) (a : Act) (w : World) (i : Nat), listed.size = ops.size → ClosedR .any ops listed → i ∈ Region.ready .any ops listed → Inv listed a w → wpOp P ops Q i (Inv (listed.setIfInBounds i true)) a w)
    (hend : ∀ (listed : Array Bool) (a : Act) (w : World), (∀ i, i < ops.size → listed.getD i false = true) → Inv listed a w → Q .normal a w)
    (h0 : Inv (Array.replicate ops.size false) a { w with drawn := w.drawn + 1 }) : (Code.region id ops true).wpIn Fence.wide n P Q a w := by
  refine wpIn_region_any hm (any_wide hL (fun i o ho => ?_) _ _ _ _ (any_inv (fun i o ho e he hb => ?_) hstep hend _ _ _ _ (by simp) (fun k ok hk hl => ?_) ?_ h0))
  · rw [Array.all_eq_true'] at hd
    exact hd o (Array.mem_of_getElem? ho)
  · rw [List.all_eq_true] at htop
    have h1 := htop i (List.mem_range.2 (Array.getElem?_eq_some_iff.1 ho).1)
    have h2 : ops.getD i default = o := by simp [Array.getD_eq_getD_getElem?, ho]
    rw [h2, Array.all_eq_true'] at h1
    have h3 := h1 e he
    rw [hb] at h3
    simpa using h3
  · by_cases hk2 : k < ops.size
    · simp [Array.getD, hk2] at hl
    · simp [Array.getD, hk2] at hl
  · simp
end
end Go.Proofs.YtdmemibnphcedaaGreatDoor
end
section
set_option linter.unusedSimpArgs false
set_option linter.unusedVariables false
set_option maxRecDepth 10000
namespace Go.Proofs.YtdmemibnphcedaaGreatDoor
open Go.RowKit Go.Shelf

/-- the loop's variable in its box -/
def Box3 (W : World) (B : Nat) (x : WV) : Prop := W.heap[B]? = some (.cells #[.string x.1, .int .i64 x.2.1, .bool x.2.2] 87 (0, 0))
theorem Box3.kept {W W' : World} {row : Option Nat} {B : Nat} {x : WV} (h : Box3 W B x) (hg : W.grownBy W' row) (hne : some B ≠ row) : Box3 W' B x := (hg.block B (Array.getElem?_eq_some_iff.1 h).1 hne).trans h
theorem Box3.c0 {W : World} {B : Nat} {x : WV} (h : Box3 W B x) : W.cell? ⟨B, 0, none⟩ = some (.string x.1) := by simp [World.cell?, show W.heap[B]? = _ from h]
theorem Box3.c1 {W : World} {B : Nat} {x : WV} (h : Box3 W B x) : W.cell? ⟨B, 1, none⟩ = some (.int .i64 x.2.1) := by simp [World.cell?, show W.heap[B]? = _ from h]
theorem Box3.c2 {W : World} {B : Nat} {x : WV} (h : Box3 W B x) : W.cell? ⟨B, 2, none⟩ = some (.bool x.2.2) := by simp [World.cell?, show W.heap[B]? = _ from h]
theorem Box3.lt {W : World} {B : Nat} {x : WV} (h : Box3 W B x) : B < W.heap.size := (Array.getElem?_eq_some_iff.1 h).1
theorem Box3.alloc {W : World} {B : Nat} {x : WV} (h : Box3 W B x) (o : Obj) : Box3 (W.alloc o) B x := h.kept (World.grownBy_alloc W o none) (by simp)
theorem Box3.not_row {W : World} {B : Nat} {x : WV} {e : TypeId} (h : Box3 W B x) (hte : 87 ≠ e) {base size k : Nat} {v : Value} {xs : List Value} (hr : W.ownsRow base e size v k xs) : some B ≠ v.ownBlock := by
  rcases hr.2 with ⟨rfl, _⟩ | ⟨g, cap, cur, rfl, _, hgb, _⟩
  · simp [Value.ownBlock]
  · intro e'
    obtain rfl : B = g := by simpa [Value.ownBlock] using e'
    have := (show W.heap[B]? = _ from h).symm.trans hgb
    simp at this
    exact hte this.2
theorem Box3.other {W : World} {B B' : Nat} {x : WV} (h : Box3 W B x) (hne : B ≠ B') (u : Value) : Box3 (W.setCell ⟨B', 0, none⟩ u) B x := h.kept (grownBy_setCell' W B' u) (fun e => hne (by cases e; rfl))
/-- two rows of two kinds of elements are two blocks -/
theorem rows_ne {W : World} {e f base size k j : Nat} {v u : Value} {xs ys : List Value} (hef : e ≠ f) (h : W.ownsRow base e size v k xs) (h' : W.ownsRow base f size u j ys) : v.ownBlock = none ∨ v.ownBlock ≠ u.ownBlock := by
  rcases h.2 with ⟨rfl, _⟩ | ⟨g, cap, cur, rfl, _, hgb, _⟩
  · exact .inl rfl
  · refine .inr fun e' => ?_
    rcases h'.2 with ⟨rfl, _⟩ | ⟨g', cap', cur', rfl, _, hgb', _⟩
    · simp [Value.ownBlock] at e'
    · obtain rfl : g = g' := by simpa [Value.ownBlock] using e'
      have := hgb.symm.trans hgb'
      simp at this
      exact hef this.2
/-- what an append keeps -/
theorem append_keeps {W w1 : World} {n₀ : Nat} {e size k : Nat} {v : Value} {xs : List Value} (hrow : W.ownsRow n₀ e size v k xs) (hn₀ : n₀ ≤ W.heap.size) (hgrow : W.grownBy w1 v.ownBlock) : KeepsOthers W w1 ∧ Below n₀ W w1 := by
  refine ⟨?_, ?_⟩
  · refine KeepsOthers.of_grownBy hgrow fun j o ej hj => ?_
    rcases hrow.2 with ⟨rfl, _⟩ | ⟨g, cap, cur, rfl, _, hgb, _⟩
    · simp [Value.ownBlock] at ej
    · obtain rfl : g = j := by simpa [Value.ownBlock] using ej
      rw [hgb] at hj; cases hj; rfl
  · refine (Below.refl n₀ W).grown hgrow hn₀ fun j ej => ?_
    rcases hrow.2 with ⟨rfl, _⟩ | ⟨g, cap, cur, rfl, hb, _, _⟩
    · simp [Value.ownBlock] at ej
    · obtain rfl : g = j := by simpa [Value.ownBlock] using ej
      exact hb

theorem infoS : (Tryz.prog.info? 9).map (fun i => (i.zero, i.size, i.bytes)) = some (some (.string .empty), 1, 16) := by kernel_rfl
theorem infoB : (Tryz.prog.info? 4).map (fun i => (i.zero, i.size, i.bytes)) = some (some (.bool false), 1, 1) := by kernel_rfl

/-- the place in the body where the words are laid on -/
def actB (z n1 Bx : Nat) (s : ByteArray) (x : WV) (t20 t21 t22 t23 t24 t25 t26 t27 t28 t29 : Value) : Act := { tmps := #[.string s, undef, .pointer (some ⟨z, 0, none⟩), .pointer (some ⟨z + 1, 0, none⟩), .pointer (some ⟨z + 1 + 1, 0, none⟩), .int .i64 0, .pointer (some ⟨n1, 0, none⟩), .pointer (some ⟨n1 + 1, 0, none⟩), .pointer (some ⟨Bx, 0, none⟩), .string s, .int .i64 0, .int .i64 0, .bool false, undef, .string s, .func (.func 72) #[] #[.pointer (some ⟨n1 + 1 + 1, 0, none⟩)], .agg #[.string x.1, .int .i64 x.2.1, .bool x.2.2], .pointer (some ⟨Bx, 1, none⟩), .int .i64 x.2.1, .bool (decide (x.2.1 < 0)), t20, t21, t22, t23, t24, t25, t26, t27, t28, t29, undef, undef], defers := [] }

structure RIn (n0 B6 B7 Bn Bx : Nat) (x : WV) (v u : Value) (k : Nat) (xs ys : List Value) (W : World) (b : Nat → Bool) (t20 t21 t22 t23 t24 t25 t26 t27 t28 t29 : Value) (w' : World) : Prop where
  f0 : b 0 = true → t20 = v
  f1 : b 1 = true → t21 = .pointer (some ⟨Bx, 0, none⟩)
  f2 : b 2 = true → t22 = .string x.1
  f3 : b 3 = true → b 4 = false → ∃ g, t23 = .slice (some ⟨g, 0, none⟩) 1 1 ∧ Boxed w' g 9 (.string x.1)
  f5 : b 5 = true → t25 = u
  f6 : b 6 = true → t26 = .pointer (some ⟨Bx, 2, none⟩)
  f7 : b 7 = true → t27 = .bool x.2.2
  f8 : b 8 = true → b 9 = false → ∃ g, t28 = .slice (some ⟨g, 0, none⟩) 1 1 ∧ Boxed w' g 4 (.bool x.2.2)
  r4 : b 4 = false → w'.ownsRow n0 9 1 v k xs
  r4' : b 4 = true → w'.ownsRow n0 9 1 t24 (k + 1) (xs ++ [.string x.1]) ∧ t24.ownBlock ≠ some Bn
  r9 : b 9 = false → w'.ownsRow n0 4 1 u k ys
  r9' : b 9 = true → w'.ownsRow n0 4 1 t29 (k + 1) (ys ++ [.bool x.2.2])
  q6 : Boxed w' B6 27 (if b 10 = true then t24 else v)
  q7 : Boxed w' B7 48 (if b 11 = true then t29 else u)
  qx : Box3 w' Bx x
  ko : KeepsOthers W w'
  be : Below n0 W w'
  kb : ∀ (B : Nat) (t : TypeId) (val : Value), B ≠ B6 → B ≠ B7 → t ≠ 9 → t ≠ 4 → Boxed W B t val → Boxed w' B t val
  kn : ∀ (val : Value), Boxed W Bn 9 val → Boxed w' Bn 9 val
  sz : n0 ≤ W.heap.size ∧ W.heap.size ≤ w'.heap.size

section
variable {n0 B6 B7 Bn Bx : Nat} {x : WV} {v u : Value} {k : Nat} {xs ys : List Value} {W w' : World} {b : Nat → Bool} {t20 t21 t22 t23 t24 t25 t26 t27 t28 t29 : Value}

/-- something is laid beside -/
theorem RIn.alloc (h : RIn n0 B6 B7 Bn Bx x v u k xs ys W b t20 t21 t22 t23 t24 t25 t26 t27 t28 t29 w') (o : Obj) : RIn n0 B6 B7 Bn Bx x v u k xs ys W b t20 t21 t22 t23 t24 t25 t26 t27 t28 t29 (w'.alloc o) where
  f0 := h.f0
  f1 := h.f1
  f2 := h.f2
  f3 := fun h1 h2 => by obtain ⟨g, k1, k2⟩ := h.f3 h1 h2; exact ⟨g, k1, k2.alloc _⟩
  f5 := h.f5
  f6 := h.f6
  f7 := h.f7
  f8 := fun h1 h2 => by obtain ⟨g, k1, k2⟩ := h.f8 h1 h2; exact ⟨g, k1, k2.alloc _⟩
  r4 := fun h1 => (h.r4 h1).alloc _
  r4' := fun h1 => ⟨(h.r4' h1).1.alloc _, (h.r4' h1).2⟩
  r9 := fun h1 => (h.r9 h1).alloc _
  r9' := fun h1 => (h.r9' h1).alloc _
  q6 := h.q6.alloc _
  q7 := h.q7.alloc _
  qx := h.qx.alloc _
  ko := h.ko.trans (KeepsOthers.alloc _ _)
  be := h.be.alloc (Nat.le_trans h.sz.1 h.sz.2) _
  kb := fun B t val h1 h2 h3 h4 h5 => (h.kb B t val h1 h2 h3 h4 h5).alloc _
  kn := fun val h1 => (h.kn val h1).alloc _
  sz := ⟨h.sz.1, by have := h.sz.2; simp; omega⟩
/-- the draw -/
theorem RIn.drew (h : RIn n0 B6 B7 Bn Bx x v u k xs ys W b t20 t21 t22 t23 t24 t25 t26 t27 t28 t29 w') : RIn n0 B6 B7 Bn Bx x v u k xs ys W b t20 t21 t22 t23 t24 t25 t26 t27 t28 t29 { w' with drawn := w'.drawn + 1 } := ⟨h.f0, h.f1, h.f2, h.f3, h.f5, h.f6, h.f7, h.f8, h.r4, h.r4', h.r9, h.r9', h.q6, h.q7, h.qx, h.ko.trans (KeepsOthers.drew _), h.be.trans (Below.drew (Below.refl _ _)), h.kb, h.kn, h.sz⟩

/-- one more has come up -/
def updB (i : Nat) (b : Nat → Bool) : Nat → Bool := fun j => if j = i then true else b j

theorem RIn.s0 (h : RIn n0 B6 B7 Bn Bx x v u k xs ys W b t20 t21 t22 t23 t24 t25 t26 t27 t28 t29 w') : RIn n0 B6 B7 Bn Bx x v u k xs ys W (updB 0 b) v t21 t22 t23 t24 t25 t26 t27 t28 t29 w' := { h with f0 := fun _ => rfl }
theorem RIn.s1 (h : RIn n0 B6 B7 Bn Bx x v u k xs ys W b t20 t21 t22 t23 t24 t25 t26 t27 t28 t29 w') : RIn n0 B6 B7 Bn Bx x v u k xs ys W (updB 1 b) t20 (.pointer (some ⟨Bx, 0, none⟩)) t22 t23 t24 t25 t26 t27 t28 t29 w' := { h with f1 := fun _ => rfl }
theorem RIn.s2 (h : RIn n0 B6 B7 Bn Bx x v u k xs ys W b t20 t21 t22 t23 t24 t25 t26 t27 t28 t29 w') : RIn n0 B6 B7 Bn Bx x v u k xs ys W (updB 2 b) t20 t21 (.string x.1) t23 t24 t25 t26 t27 t28 t29 w' := { h with f2 := fun _ => rfl }
theorem RIn.s3 (h : RIn n0 B6 B7 Bn Bx x v u k xs ys W b t20 t21 t22 t23 t24 t25 t26 t27 t28 t29 w') : RIn n0 B6 B7 Bn Bx x v u k xs ys W (updB 3 b) t20 t21 t22 (.slice (some ⟨w'.heap.size, 0, none⟩) 1 1) t24 t25 t26 t27 t28 t29 (w'.alloc (.cells #[.string x.1] 9)) := { h.alloc _ with f3 := fun _ _ => ⟨_, rfl, Boxed.new w' 9 _⟩ }
theorem RIn.s5 (h : RIn n0 B6 B7 Bn Bx x v u k xs ys W b t20 t21 t22 t23 t24 t25 t26 t27 t28 t29 w') : RIn n0 B6 B7 Bn Bx x v u k xs ys W (updB 5 b) t20 t21 t22 t23 t24 u t26 t27 t28 t29 w' := { h with f5 := fun _ => rfl }
theorem RIn.s6 (h : RIn n0 B6 B7 Bn Bx x v u k xs ys W b t20 t21 t22 t23 t24 t25 t26 t27 t28 t29 w') : RIn n0 B6 B7 Bn Bx x v u k xs ys W (updB 6 b) t20 t21 t22 t23 t24 t25 (.pointer (some ⟨Bx, 2, none⟩)) t27 t28 t29 w' := { h with f6 := fun _ => rfl }
theorem RIn.s7 (h : RIn n0 B6 B7 Bn Bx x v u k xs ys W b t20 t21 t22 t23 t24 t25 t26 t27 t28 t29 w') : RIn n0 B6 B7 Bn Bx x v u k xs ys W (updB 7 b) t20 t21 t22 t23 t24 t25 t26 (.bool x.2.2) t28 t29 w' := { h with f7 := fun _ => rfl }
theorem RIn.s8 (h : RIn n0 B6 B7 Bn Bx x v u k xs ys W b t20 t21 t22 t23 t24 t25 t26 t27 t28 t29 w') : RIn n0 B6 B7 Bn Bx x v u k xs ys W (updB 8 b) t20 t21 t22 t23 t24 t25 t26 t27 (.slice (some ⟨w'.heap.size, 0, none⟩) 1 1) t29 (w'.alloc (.cells #[.bool x.2.2] 4)) := { h.alloc _ with f8 := fun _ _ => ⟨_, rfl, Boxed.new w' 4 _⟩ }
theorem RIn.s4 (h : RIn n0 B6 B7 Bn Bx x v u k xs ys W b t20 t21 t22 t23 t24 t25 t26 t27 t28 t29 w') (hb4 : b 4 = false) (hb10 : b 10 = false) {w2 : World} {v' : Value} (hown : w2.ownsRow n0 9 1 v' (k + 1) (xs ++ [.string x.1])) (hg : w'.grownBy w2 v.ownBlock) (hat : v'.ownBlock = v.ownBlock ∨ v'.ownBlock = some w'.heap.size) (hvB : v.ownBlock ≠ some Bn) (hBn : Bn < W.heap.size) :
    RIn n0 B6 B7 Bn Bx x v u k xs ys W (updB 4 b) t20 t21 t22 t23 v' t25 t26 t27 t28 t29 w2 where
  f0 := h.f0
  f1 := h.f1
  f2 := h.f2
  f3 := fun _ h2 => by cases h2
  f5 := h.f5
  f6 := h.f6
  f7 := h.f7
  f8 := fun h1 h2 => by obtain ⟨g, k1, k2⟩ := h.f8 h1 h2; exact ⟨g, k1, k2.kept hg (k2.not_row (by decide) (h.r4 hb4))⟩
  r4 := fun h1 => by cases h1
  r4' := fun _ => ⟨hown, by
    rcases hat with e | e
    · rw [e]; exact hvB
    · rw [e]; intro e'; have := h.sz.2; simp at e'; omega⟩
  r9 := fun h1 => (h.r9 h1).kept hg (rows_ne (by decide) (h.r9 h1) (h.r4 hb4))
  r9' := fun h1 => (h.r9' h1).kept hg (rows_ne (by decide) (h.r9' h1) (h.r4 hb4))
  q6 := by
    have := h.q6
    rw [hb10] at this
    have e : updB 4 b 10 = false := hb10
    rw [e]
    exact this.kept hg (this.not_row (by decide) (h.r4 hb4))
  q7 := h.q7.kept hg (h.q7.not_row (by decide) (h.r4 hb4))
  qx := h.qx.kept hg (h.qx.not_row (by decide) (h.r4 hb4))
  ko := h.ko.trans (append_keeps (h.r4 hb4) (Nat.le_trans h.sz.1 h.sz.2) hg).1
  be := h.be.trans (append_keeps (h.r4 hb4) (Nat.le_trans h.sz.1 h.sz.2) hg).2
  kb := fun B t val h1 h2 h3 h4 h5 => by
    have := h.kb B t val h1 h2 h3 h4 h5
    exact this.kept hg (this.not_row h3 (h.r4 hb4))
  kn := fun val h1 => (h.kn val h1).kept hg (Ne.symm hvB)
  sz := ⟨h.sz.1, Nat.le_trans h.sz.2 hg.size⟩
theorem RIn.s9 (h : RIn n0 B6 B7 Bn Bx x v u k xs ys W b t20 t21 t22 t23 t24 t25 t26 t27 t28 t29 w') (hb4 : b 4 = true) (hb9 : b 9 = false) (hb11 : b 11 = false) {w2 : World} {u' : Value} (hown : w2.ownsRow n0 4 1 u' (k + 1) (ys ++ [.bool x.2.2])) (hg : w'.grownBy w2 u.ownBlock) :
    RIn n0 B6 B7 Bn Bx x v u k xs ys W (updB 9 b) t20 t21 t22 t23 t24 t25 t26 t27 t28 u' w2 where
  f0 := h.f0
  f1 := h.f1
  f2 := h.f2
  f3 := fun _ h2 => by rw [show updB 9 b 4 = b 4 from rfl, hb4] at h2; cases h2
  f5 := h.f5
  f6 := h.f6
  f7 := h.f7
  f8 := fun _ h2 => by cases h2
  r4 := fun h1 => (h.r4 h1).kept hg (rows_ne (by decide) (h.r4 h1) (h.r9 hb9))
  r4' := fun h1 => ⟨(h.r4' h1).1.kept hg (rows_ne (by decide) (h.r4' h1).1 (h.r9 hb9)), (h.r4' h1).2⟩
  r9 := fun h1 => by cases h1
  r9' := fun _ => hown
  q6 := h.q6.kept hg (h.q6.not_row (by decide) (h.r9 hb9))
  q7 := by
    have := h.q7
    rw [hb11] at this
    have e : updB 9 b 11 = false := hb11
    rw [e]
    exact this.kept hg (this.not_row (by decide) (h.r9 hb9))
  qx := h.qx.kept hg (h.qx.not_row (by decide) (h.r9 hb9))
  ko := h.ko.trans (append_keeps (h.r9 hb9) (Nat.le_trans h.sz.1 h.sz.2) hg).1
  be := h.be.trans (append_keeps (h.r9 hb9) (Nat.le_trans h.sz.1 h.sz.2) hg).2
  kb := fun B t val h1 h2 h3 h4 h5 => by
    have := h.kb B t val h1 h2 h3 h4 h5
    exact this.kept hg (this.not_row h4 (h.r9 hb9))
  kn := fun val h1 => (h.kn val h1).kept hg ((h.kn val h1).not_row (by decide) (h.r9 hb9))
  sz := ⟨h.sz.1, Nat.le_trans h.sz.2 hg.size⟩
theorem RIn.s10 (h : RIn n0 B6 B7 Bn Bx x v u k xs ys W b t20 t21 t22 t23 t24 t25 t26 t27 t28 t29 w') (hb4 : b 4 = true) (hb9 : b 9 = true) (h67 : B6 ≠ B7) (h6x : Bx ≠ B6) (h6n : Bn ≠ B6) (hn6 : n0 ≤ B6) :
    RIn n0 B6 B7 Bn Bx x v u k xs ys W (updB 10 b) t20 t21 t22 t23 t24 t25 t26 t27 t28 t29 (w'.setCell ⟨B6, 0, none⟩ t24) where
  f0 := h.f0
  f1 := h.f1
  f2 := h.f2
  f3 := fun _ h2 => by rw [show updB 10 b 4 = b 4 from rfl, hb4] at h2; cases h2
  f5 := h.f5
  f6 := h.f6
  f7 := h.f7
  f8 := fun _ h2 => by rw [show updB 10 b 9 = b 9 from rfl, hb9] at h2; cases h2
  r4 := fun h1 => by rw [show updB 10 b 4 = b 4 from rfl, hb4] at h1; cases h1
  r4' := fun h1 => ⟨(h.r4' h1).1.kept (grownBy_setCell' w' B6 _) (.inr (h.q6.not_row (by decide) (h.r4' h1).1).symm), (h.r4' h1).2⟩
  r9 := fun h1 => by rw [show updB 10 b 9 = b 9 from rfl, hb9] at h1; cases h1
  r9' := fun h1 => (h.r9' h1).kept (grownBy_setCell' w' B6 _) (.inr (h.q6.not_row (by decide) (h.r9' h1)).symm)
  q6 := h.q6.set t24
  q7 := h.q7.other (Ne.symm h67) _
  qx := h.qx.other h6x _
  ko := h.ko.trans (KeepsOthers.setCell _ _ _)
  be := h.be.setCell (p := ⟨B6, 0, none⟩) hn6 _
  kb := fun B t val h1 h2 h3 h4 h5 => (h.kb B t val h1 h2 h3 h4 h5).other h1 _
  kn := fun val h1 => (h.kn val h1).other h6n _
  sz := ⟨h.sz.1, by have := h.sz.2; simpa using this⟩
theorem RIn.s11 (h : RIn n0 B6 B7 Bn Bx x v u k xs ys W b t20 t21 t22 t23 t24 t25 t26 t27 t28 t29 w') (hb4 : b 4 = true) (hb9 : b 9 = true) (h67 : B6 ≠ B7) (h7x : Bx ≠ B7) (h7n : Bn ≠ B7) (hn7 : n0 ≤ B7) :
    RIn n0 B6 B7 Bn Bx x v u k xs ys W (updB 11 b) t20 t21 t22 t23 t24 t25 t26 t27 t28 t29 (w'.setCell ⟨B7, 0, none⟩ t29) where
  f0 := h.f0
  f1 := h.f1
  f2 := h.f2
  f3 := fun _ h2 => by rw [show updB 11 b 4 = b 4 from rfl, hb4] at h2; cases h2
  f5 := h.f5
  f6 := h.f6
  f7 := h.f7
  f8 := fun _ h2 => by rw [show updB 11 b 9 = b 9 from rfl, hb9] at h2; cases h2
  r4 := fun h1 => by rw [show updB 11 b 4 = b 4 from rfl, hb4] at h1; cases h1
  r4' := fun h1 => ⟨(h.r4' h1).1.kept (grownBy_setCell' w' B7 _) (.inr (h.q7.not_row (by decide) (h.r4' h1).1).symm), (h.r4' h1).2⟩
  r9 := fun h1 => by rw [show updB 11 b 9 = b 9 from rfl, hb9] at h1; cases h1
  r9' := fun h1 => (h.r9' h1).kept (grownBy_setCell' w' B7 _) (.inr (h.q7.not_row (by decide) (h.r9' h1)).symm)
  q6 := h.q6.other h67 _
  q7 := h.q7.set t29
  qx := h.qx.other h7x _
  ko := h.ko.trans (KeepsOthers.setCell _ _ _)
  be := h.be.setCell (p := ⟨B7, 0, none⟩) hn7 _
  kb := fun B t val h1 h2 h3 h4 h5 => (h.kb B t val h1 h2 h3 h4 h5).other h2 _
  kn := fun val h1 => (h.kn val h1).other h7n _
  sz := ⟨h.sz.1, by have := h.sz.2; simpa using this⟩
end

/-- the place where the results are written -/
def actE (z n1 D : Nat) (s : ByteArray) (t30 t31 : Value) : Act := { tmps := #[.string s, undef, .pointer (some ⟨z, 0, none⟩), .pointer (some ⟨z + 1, 0, none⟩), .pointer (some ⟨z + 1 + 1, 0, none⟩), .int .i64 0, .pointer (some ⟨n1, 0, none⟩), .pointer (some ⟨n1 + 1, 0, none⟩), undef, .string s, .int .i64 0, .int .i64 0, .bool false, undef, .string s, .func (.func 72) #[] #[.pointer (some ⟨n1 + 1 + 1, 0, none⟩)], undef, undef, undef, undef, undef, undef, undef, undef, undef, undef, undef, undef, undef, undef, t30, t31], defers := [{ target := .collected D, args := #[] }] }

structure SIn (n0 n1 : Nat) (v u : Value) (k : Nat) (xs ys : List Value) (W : World) (b : Nat → Bool) (t30 t31 : Value) (w' : World) : Prop where
  f0 : b 0 = true → t30 = v
  f1 : b 1 = true → t31 = u
  p2 : Boxed w' n0 27 (if b 2 = true then v else .slice none 0 0)
  p3 : Boxed w' (n0 + 1) 48 (if b 3 = true then u else .slice none 0 0)
  p4 : Boxed w' (n0 + 1 + 1) 24 (.int .i64 0)
  p6 : Boxed w' n1 27 v
  p7 : Boxed w' (n1 + 1) 48 u
  rv : w'.ownsRow n0 9 1 v k xs
  ru : w'.ownsRow n0 4 1 u k ys
  ko : KeepsOthers W w'
  be : Below n0 W w'

section
variable {n0 n1 : Nat} {v u : Value} {k : Nat} {xs ys : List Value} {W w' : World} {b : Nat → Bool} {t30 t31 : Value}
theorem SIn.drew (h : SIn n0 n1 v u k xs ys W b t30 t31 w') : SIn n0 n1 v u k xs ys W b t30 t31 { w' with drawn := w'.drawn + 1 } := ⟨h.f0, h.f1, h.p2, h.p3, h.p4, h.p6, h.p7, h.rv, h.ru, h.ko.trans (KeepsOthers.drew _), h.be.trans (Below.drew (Below.refl _ _))⟩
theorem SIn.s0 (h : SIn n0 n1 v u k xs ys W b t30 t31 w') : SIn n0 n1 v u k xs ys W (updB 0 b) v t31 w' := { h with f0 := fun _ => rfl }
theorem SIn.s1 (h : SIn n0 n1 v u k xs ys W b t30 t31 w') : SIn n0 n1 v u k xs ys W (updB 1 b) t30 u w' := { h with f1 := fun _ => rfl }
theorem SIn.s2 (h : SIn n0 n1 v u k xs ys W b t30 t31 w') (hn : n0 + 1 + 1 < n1) : SIn n0 n1 v u k xs ys W (updB 2 b) t30 t31 (w'.setCell ⟨n0, 0, none⟩ v) where
  f0 := h.f0
  f1 := h.f1
  p2 := h.p2.set v
  p3 := h.p3.other (by omega) _
  p4 := h.p4.other (by omega) _
  p6 := h.p6.other (by omega) _
  p7 := h.p7.other (by omega) _
  rv := h.rv.kept (grownBy_setCell' w' n0 _) (.inr (h.p2.not_row (by decide) h.rv).symm)
  ru := h.ru.kept (grownBy_setCell' w' n0 _) (.inr (h.p2.not_row (by decide) h.ru).symm)
  ko := h.ko.trans (KeepsOthers.setCell _ _ _)
  be := h.be.setCell (p := ⟨n0, 0, none⟩) (Nat.le_refl _) _
theorem SIn.s3 (h : SIn n0 n1 v u k xs ys W b t30 t31 w') (hn : n0 + 1 + 1 < n1) : SIn n0 n1 v u k xs ys W (updB 3 b) t30 t31 (w'.setCell ⟨n0 + 1, 0, none⟩ u) where
  f0 := h.f0
  f1 := h.f1
  p2 := h.p2.other (by omega) _
  p3 := h.p3.set u
  p4 := h.p4.other (by omega) _
  p6 := h.p6.other (by omega) _
  p7 := h.p7.other (by omega) _
  rv := h.rv.kept (grownBy_setCell' w' (n0 + 1) _) (.inr (h.p3.not_row (by decide) h.rv).symm)
  ru := h.ru.kept (grownBy_setCell' w' (n0 + 1) _) (.inr (h.p3.not_row (by decide) h.ru).symm)
  ko := h.ko.trans (KeepsOthers.setCell _ _ _)
  be := h.be.setCell (p := ⟨n0 + 1, 0, none⟩) (Nat.le_succ _) _
theorem SIn.s4 (h : SIn n0 n1 v u k xs ys W b t30 t31 w') (hn : n0 + 1 + 1 < n1) : SIn n0 n1 v u k xs ys W (updB 4 b) t30 t31 (w'.setCell ⟨n0 + 1 + 1, 0, none⟩ (.int .i64 0)) where
  f0 := h.f0
  f1 := h.f1
  p2 := h.p2.other (by omega) _
  p3 := h.p3.other (by omega) _
  p4 := h.p4.set _
  p6 := h.p6.other (by omega) _
  p7 := h.p7.other (by omega) _
  rv := h.rv.kept (grownBy_setCell' w' (n0 + 1 + 1) _) (.inr (h.p4.not_row (by decide) h.rv).symm)
  ru := h.ru.kept (grownBy_setCell' w' (n0 + 1 + 1) _) (.inr (h.p4.not_row (by decide) h.ru).symm)
  ko := h.ko.trans (KeepsOthers.setCell _ _ _)
  be := h.be.setCell (p := ⟨n0 + 1 + 1, 0, none⟩) (by show n0 ≤ n0 + 1 + 1; omega) _
end
end Go.Proofs.YtdmemibnphcedaaGreatDoor
end
section
set_option linter.unusedSimpArgs false
set_option linter.unusedVariables false
set_option maxRecDepth 10000
namespace Go.Proofs.YtdmemibnphcedaaGreatDoor
open Go.RowKit Go.Shelf

attribute [local go_sem] Oper.semAt_some

theorem KpW.put {n₀ Bn : Nat} {s : ByteArray} {w0 : World} (hn : n₀ ≤ w0.heap.size) (W : World) (l : Nat) (o o' : Obj) (hl : w0.heap.size ≤ l) (hW : W.heap[l]? = some o) (ho : o.isCells = false) (hw : o.isWalk = false) : KpW n₀ Bn s W (W.putObj l o') := by
  refine ⟨belowK_b (w := w0) hn W l o o' hl hW ho hw, fun hx => hx.kept (grownBy_putObj' W l o') fun e => ?_⟩
  obtain rfl : Bn = l := by simpa using e
  rw [show W.heap[Bn]? = _ from hx] at hW
  cases hW
  cases ho

theorem read0 {s : ByteArray} (h : readA s = 0) : s.size ≤ 1000 ∧ s.data.toList.all prn = true := by
  unfold readA at h
  split at h
  · cases h
  · split at h
    · exact ⟨by omega, by assumption⟩
    · cases h

def strV (x : WV) : Value := .string x.1
def booV (x : WV) : Value := .bool x.2.2

theorem words_results {tmps : Array Value} {p2 p3 p4 : Addr} {v2 v3 v4 : Value} {w : World} (h2 : tmps.getD 2 undef = .pointer (some p2)) (h3 : tmps.getD 3 undef = .pointer (some p3)) (h4 : tmps.getD 4 undef = .pointer (some p4)) (c2 : w.cell? p2 = some v2) (c3 : w.cell? p3 = some v3) (c4 : w.cell? p4 = some v4) :
    (results Tryz.f21 tmps).run Tryz.prog w = .ok (.tuple #[v2, v3, v4]) w := by
  have hr : Tryz.f21.results = #[.cell 2 27, .cell 3 48, .cell 4 24] := rfl
  have a1 := Tryz.isAgg27
  have a2 := Tryz.isAgg48
  have a3 := Tryz.isAgg24
  simp only [Array.getD_eq_getD_getElem?] at h2 h3 h4
  simp [results, hr, asAddr, loadVar, h2, h3, h4, a1, a2, a3, run_load, c2, c3, c4]

/-- what Words comes to -/
def WOut (s : ByteArray) (w : World) (e : Ending) (W' : World) : Prop := Below w.heap.size w W' ∧
  ((readA s ≠ 0 ∧ e = .returned (.tuple #[.slice none 0 0, .slice none 0 0, .int .i64 (readA s)])) ∨
   (readA s = 0 ∧ WsR s.data.toList 0 none ∧ e = .returned (.tuple #[.slice none 0 0, .slice none 0 0, .int .i64 250])) ∨
   (readA s = 0 ∧ ∃ xs v u, WsR s.data.toList 0 (some (shows xs)) ∧ (xs = [] → v = .slice none 0 0 ∧ u = .slice none 0 0) ∧ W'.ownsRow w.heap.size 9 1 v xs.length (xs.map strV) ∧ W'.ownsRow w.heap.size 4 1 u xs.length (xs.map booV) ∧ e = .returned (.tuple #[v, u, .int .i64 0])))

set_option maxRecDepth 100000 in
set_option maxHeartbeats 4000000 in
theorem words_walk (s : ByteArray) (w : World) (m : Int) (hm : w.cell? ⟨0, 0, none⟩ = some (.int .i64 m)) (h0 : 0 < w.heap.size) :
    Calls Tryz.prog 21 #[.string s] w fun e W' => WOut s w e W' := by
  refine (callsIn_wide (n := 6)).1 ?_
  refine callsIn_of_wp_marks Tryz.func21 rfl trivial ?_ rfl
  simp only [Tryz.ntmps21, List.size_toArray, List.length_cons, List.length_nil, Nat.reduceAdd, Nat.reduceSub, Array.replicate_succ, Array.replicate_zero, List.push_toArray, List.append_toArray, List.nil_append, List.cons_append]
  have hmA : (((w.alloc (.cells #[.slice none 0 0] 27)).alloc (.cells #[.slice none 0 0] 48)).alloc (.cells #[.int .i64 0] 24)).cell? ⟨0, 0, none⟩ = some (.int .i64 m) := (((((Below.refl w.heap.size w).alloc (Nat.le_refl _) _).alloc (by simp) _).alloc (by simp; omega) _).cell (p := ⟨0, 0, none⟩) h0).trans hm
  have b2' := ((Boxed.new w 27 (.slice none 0 0)).alloc (.cells #[.slice none 0 0] 48)).alloc (.cells #[.int .i64 0] 24)
  have b3' := (Boxed.new (w.alloc (.cells #[.slice none 0 0] 27)) 48 (.slice none 0 0)).alloc (.cells #[.int .i64 0] 24)
  have b4' := Boxed.new ((w.alloc (.cells #[.slice none 0 0] 27)).alloc (.cells #[.slice none 0 0] 48)) 24 (.int .i64 0)
  simp only [World.size_alloc] at b3' b4'
  have hA0 : Below w.heap.size w (((w.alloc (.cells #[.slice none 0 0] 27)).alloc (.cells #[.slice none 0 0] 48)).alloc (.cells #[.int .i64 0] 24)) := (((Below.refl _ w).alloc (Nat.le_refl _) _).alloc (by simp) _).alloc (by simp; omega) _
  gi_wp2_with (refine ⟨trivial, ?_⟩; first | (gi_at_call 31; refine (callsIn_wide.2 (readable_calls s _ m hmA (by simp))).mono ?_; rintro e w1 ⟨rfl, hb1⟩; have b2 := b2'.kept (grown_of hb1) (by simp); have b3 := b3'.kept (grown_of hb1) (by simp); have b4 := b4'.kept (grown_of hb1) (by simp); have c2 := b2.cell; have c3 := b3.cell; have c4 := b4.cell; have f2 := b2.frozen; have f3 := b3.frozen; have f4 := b4.frozen) | (gi_at_call 44; refine (words_in _ s _).mono ?_; rintro e w' ⟨rfl, rfl⟩))
  · -- a line that can't be read
    have hne : readA s ≠ 0 := by
      have hh : (readA s != 0) = true := by assumption
      simpa using hh
    refine ⟨_, words_results rfl rfl rfl (by go_simp) (by go_simp) (by go_simp), ?_, .inl ⟨hne, rfl⟩⟩
    have hb : Below w.heap.size w w1 := hA0.trans (hb1.mono hA0.size)
    exact ((hb.setCell (p := ⟨w.heap.size, 0, none⟩) (Nat.le_refl _) _).setCell (p := ⟨w.heap.size + 1, 0, none⟩) (by simp) _).setCell (p := ⟨w.heap.size + 1 + 1, 0, none⟩) (by simp; omega) _
  · have hr0 : readA s = 0 := by
      have hh : (readA s != 0) = false := by assumption
      simpa using hh
    obtain ⟨hs1, hpr⟩ := read0 hr0
    rw [hr0]
    have hz1 := hb1.size
    have hzA := hA0.size
    have hgt : w.heap.size + 1 + 1 < w1.heap.size := b4.lt
    have hb : Below w.heap.size w w1 := hA0.trans (hb1.mono hA0.size)
    have x2 := ((b2.alloc (.cells #[.slice none 0 0] 27)).alloc (.cells #[.slice none 0 0] 48)).alloc (.cells #[.string s] 9)
    have x3 := ((b3.alloc (.cells #[.slice none 0 0] 27)).alloc (.cells #[.slice none 0 0] 48)).alloc (.cells #[.string s] 9)
    have x4 := ((b4.alloc (.cells #[.slice none 0 0] 27)).alloc (.cells #[.slice none 0 0] 48)).alloc (.cells #[.string s] 9)
    have x6 := ((Boxed.new w1 27 (.slice none 0 0)).alloc (.cells #[.slice none 0 0] 48)).alloc (.cells #[.string s] 9)
    have x7 := (Boxed.new (w1.alloc (.cells #[.slice none 0 0] 27)) 48 (.slice none 0 0)).alloc (.cells #[.string s] 9)
    have xL := Boxed.new ((w1.alloc (.cells #[.slice none 0 0] 27)).alloc (.cells #[.slice none 0 0] 48)) 9 (.string s)
    simp only [World.size_alloc] at x7 xL
    have hB0 : Below w.heap.size w (((w1.alloc (.cells #[.slice none 0 0] 27)).alloc (.cells #[.slice none 0 0] 48)).alloc (.cells #[.string s] 9)) := ((hb.alloc (by omega) _).alloc (by simp; omega) _).alloc (by simp; omega) _
    have hsz : (((w1.alloc (.cells #[.slice none 0 0] 27)).alloc (.cells #[.slice none 0 0] 48)).alloc (.cells #[.string s] 9)).heap.size = w1.heap.size + 3 := by simp
    have hm0 := (hB0.cell (p := ⟨0, 0, none⟩) h0).trans hm
    obtain ⟨W0, hW0⟩ : ∃ W0, ((w1.alloc (.cells #[.slice none 0 0] 27)).alloc (.cells #[.slice none 0 0] 48)).alloc (.cells #[.string s] 9) = W0 := ⟨_, rfl⟩
    rw [hW0] at x2 x3 x4 x6 x7 xL hB0 hsz hm0 ⊢
    clear hW0
    refine wpIn_rangeFunc_ownH rfl (by decide) (gf := 72) (lb := #[.pointer (some ⟨w1.heap.size + 1 + 1, 0, none⟩)]) rfl trivial (enters_of Tryz.func72 (by kernel_rfl) rfl)
      (words_stops 5 (by decide) (w1.heap.size + 1 + 1) w.heap.size s (by omega) hpr m W0 xL hm0 h0 (by omega)) (fun h k => h.trans k) (KpW.put (by omega)) (Below.refl _ _) (fun _ => rfl)
      (fun pre W => (((∃ v, Boxed W w1.heap.size 27 v ∧ W.ownsRow w.heap.size 9 1 v pre.length (pre.map strV) ∧ (v.ownBlock ≠ some (w1.heap.size + 1 + 1) ∧ (pre = [] → v = .slice none 0 0))) ∧ (∃ v, Boxed W (w1.heap.size + 1) 48 v ∧ W.ownsRow w.heap.size 4 1 v pre.length (pre.map booV) ∧ (pre = [] → v = .slice none 0 0))) ∧ ((Boxed W w.heap.size 27 (.slice none 0 0) ∧ Boxed W (w.heap.size + 1) 48 (.slice none 0 0)) ∧ Boxed W (w.heap.size + 1 + 1) 24 (.int .i64 0))) ∧ Below w.heap.size w W ∧ (∀ x ∈ pre, (0 : Int) ≤ x.2.1))
      (fun c pre W => ((Boxed W w.heap.size 27 (.slice none 0 0) ∧ Boxed W (w.heap.size + 1) 48 (.slice none 0 0)) ∧ Boxed W (w.heap.size + 1 + 1) 24 (.int .i64 250)) ∧ Below w.heap.size w W ∧ (c = .ret ∧ ∃ x ∈ pre, x.2.1 < 0))
      (OwnFrom.and (OwnFrom.and (OwnFrom.and (Own.from (holdsRow_own _ _ _ _ _ _ _ _) _) (Own.from (holdsRow_own _ _ _ _ _ _ _ _) _)) (OwnFrom.and (OwnFrom.and (Own.from (boxed_own _ _ _) _) (Own.from (boxed_own _ _ _) _)) (Own.from (boxed_own _ _ _) _))) (OwnFrom.and (ownFrom_below (Nat.le_refl _) (by omega)) (ownFrom_pure _ _)))
      (fun c => OwnFrom.and (OwnFrom.and (OwnFrom.and (Own.from (boxed_own _ _ _) _) (Own.from (boxed_own _ _ _) _)) (Own.from (boxed_own _ _ _) _)) (OwnFrom.and (ownFrom_below (Nat.le_refl _) (by omega)) (ownFrom_pure _ _)))
      ⟨⟨⟨⟨_, x6, World.ownsRow_nil _ _ _ _, by simp [Value.ownBlock], fun _ => rfl⟩, ⟨_, x7, World.ownsRow_nil _ _ _ _, fun _ => rfl⟩⟩, ⟨x2, x3⟩, x4⟩, hB0, fun x hx => by cases hx⟩
      (fun x a' W => ∃ Bx, w1.heap.size + 1 < Bx ∧ Box3 W Bx x ∧ a' = { tmps := #[.string s, undef, .pointer (some ⟨w.heap.size, 0, none⟩), .pointer (some ⟨w.heap.size + 1, 0, none⟩), .pointer (some ⟨w.heap.size + 1 + 1, 0, none⟩), .int .i64 0, .pointer (some ⟨w1.heap.size, 0, none⟩), .pointer (some ⟨w1.heap.size + 1, 0, none⟩), .pointer (some ⟨Bx, 0, none⟩), .string s, .int .i64 0, .int .i64 0, .bool false, undef, .string s, .func (.func 72) #[] #[.pointer (some ⟨w1.heap.size + 1 + 1, 0, none⟩)], .agg #[.string x.1, .int .i64 x.2.1, .bool x.2.2], undef, undef, undef, undef, undef, undef, undef, undef, undef, undef, undef, undef, undef, undef, undef], defers := [] })
      (fun x a' _ X Y row hs hg hr => by obtain ⟨Bx, h1, h2, h3⟩ := hs; exact ⟨Bx, h1, h2.kept hg (fun e => by obtain ⟨_, o, ho, hc⟩ := hr Bx e.symm; rw [show X.heap[Bx]? = _ from h2] at ho; cases ho; cases hc), h3⟩)
      ?assign ?body ?done ?stop
    case assign =>
      rintro l pre ⟨t, a, q⟩ W K hI hK
      dsimp only [encW]
      gi_wp2
      obtain ⟨⟨⟨⟨v, hv, hrow, hvB, hv0⟩, ⟨u, hu, hrow2, hu0⟩⟩, ⟨y2, y3⟩, y4⟩, hB, hpos⟩ := hI
      exact hK _ _ ((KeepsOthers.alloc _ _).from _) ⟨(Below.refl _ W).alloc hB.size _, fun hx => hx.alloc _⟩ ⟨⟨⟨⟨v, hv.alloc _, hrow.alloc _, hvB, hv0⟩, ⟨u, hu.alloc _, hrow2.alloc _, hu0⟩⟩, ⟨y2.alloc _, y3.alloc _⟩, y4.alloc _⟩, hB.alloc hB.size _, hpos⟩ ⟨W.heap.size, hu.lt, World.alloc_heap_new W _, rfl⟩
    case body =>
      rintro l pre x a' W hl ⟨r, hr⟩ ⟨⟨⟨⟨v, hv, hrow, hvB, hv0⟩, ⟨u, hu, hrow2, hu0⟩⟩, ⟨y2, y3⟩, y4⟩, hB, hpos⟩ ⟨Bx, hBx, bX, rfl⟩ hlt
      have cX0 := bX.c0
      have cX1 := bX.c1
      have cX2 := bX.c2
      have cV := hv.cell
      have cU := hu.cell
      have d2 := y2.cell
      have d3 := y3.cell
      have d4 := y4.cell
      have e2 := y2.frozen
      have e3 := y3.frozen
      have e4 := y4.frozen
      gi_wp2
      · -- the error
        have hneg : x.2.1 < 0 := by assumption
        refine ⟨(((KeepsOthers.setCell W _ _).trans (KeepsOthers.setCell _ _ _)).trans (KeepsOthers.setCell _ _ _)).from _, ⟨⟨?_, ?_⟩, ?_⟩, ?_, rfl, x, by simp, hneg⟩
        · exact ((y2.set _).other (by omega) _).other (by omega) _
        · exact ((y3.other (by omega) _).set _).other (by omega) _
        · exact ((y4.other (by omega) _).other (by omega) _).set _
        · exact ((hB.setCell (p := ⟨w.heap.size, 0, none⟩) (Nat.le_refl _) _).setCell (p := ⟨w.heap.size + 1, 0, none⟩) (by simp) _).setCell (p := ⟨w.heap.size + 1 + 1, 0, none⟩) (by simp; omega) _
      · -- a word
        have hpo : 0 ≤ x.2.1 := by assumption
        have hxlt := bX.lt
        refine region_inv (Inv := fun listed a w' => ∃ t20 t21 t22 t23 t24 t25 t26 t27 t28 t29, a = actB w.heap.size w1.heap.size Bx s x t20 t21 t22 t23 t24 t25 t26 t27 t28 t29 ∧ RIn w.heap.size w1.heap.size (w1.heap.size + 1) (w1.heap.size + 1 + 1) Bx x v u pre.length (pre.map strV) (pre.map booV) W (fun j => listed.getD j false) t20 t21 t22 t23 t24 t25 t26 t27 t28 t29 w') (by kernel_rfl) (fun ⟨_, _, h⟩ => h) (by kernel_rfl) (by kernel_rfl) ?step ?fin ?start
        case start =>
          refine ⟨undef, undef, undef, undef, undef, undef, undef, undef, undef, undef, rfl, RIn.drew ?_⟩
          have hb0 : ∀ j, (Array.replicate 12 false).getD j false = false := fun j => by
            by_cases hj : j < 12
            · simp [Array.getD, hj]
            · simp [Array.getD, hj]
          have no : ∀ (j : Nat) (p : Prop), (Array.replicate 12 false).getD j false = true → p := fun j p hh => by rw [hb0 j] at hh; cases hh
          refine ⟨fun hh => no _ _ hh, fun hh => no _ _ hh, fun hh => no _ _ hh, fun hh => no _ _ hh, fun hh => no _ _ hh, fun hh => no _ _ hh, fun hh => no _ _ hh, fun hh => no _ _ hh, fun _ => hrow, fun hh => no _ _ hh, fun _ => hrow2, fun hh => no _ _ hh, ?_, ?_, bX, KeepsOthers.refl _, Below.refl _ _, fun _ _ _ _ _ _ _ hh => hh, fun _ hh => hh, ⟨hB.size, Nat.le_refl _⟩⟩
          · show Boxed W w1.heap.size 27 (if (Array.replicate 12 false).getD 10 false = true then undef else v)
            rw [hb0]
            exact hv
          · show Boxed W (w1.heap.size + 1) 48 (if (Array.replicate 12 false).getD 11 false = true then undef else u)
            rw [hb0]
            exact hu
        case fin =>
          rintro listed a w' hall ⟨t20, t21, t22, t23, t24, t25, t26, t27, t28, t29, rfl, h⟩
          have e4 : listed.getD 4 false = true := hall 4 (by decide)
          have e9 : listed.getD 9 false = true := hall 9 (by decide)
          have e10 : listed.getD 10 false = true := hall 10 (by decide)
          have e11 : listed.getD 11 false = true := hall 11 (by decide)
          have q6 := h.q6
          have q7 := h.q7
          rw [if_pos e10] at q6
          rw [if_pos e11] at q7
          obtain ⟨r4, r4b⟩ := h.r4' e4
          have r9 := h.r9' e9
          refine ⟨h.ko.from _, ⟨h.be, fun hx => h.kn _ hx⟩, ⟨⟨⟨t24, q6, ?_, r4b, fun e => by simp at e⟩, ⟨t29, q7, ?_, fun e => by simp at e⟩⟩, ⟨h.kb _ _ _ (by omega) (by omega) (by decide) (by decide) y2, h.kb _ _ _ (by omega) (by omega) (by decide) (by decide) y3⟩, h.kb _ _ _ (by omega) (by omega) (by decide) (by decide) y4⟩, hB.trans h.be, fun z hz => ?_⟩
          · rw [List.length_append, List.map_append]; exact r4
          · rw [List.length_append, List.map_append]; exact r9
          · rcases List.mem_append.1 hz with hz | hz
            · exact hpos z hz
            · simp at hz; rw [hz]; exact hpo
        case step =>
          rintro listed a w' i hs hc hi ⟨t20, t21, t22, t23, t24, t25, t26, t27, t28, t29, rfl, h⟩
          obtain ⟨h1, oi, ho, hall⟩ := mem_ready.1 hi
          have hlt : i < 12 := (Array.getElem?_eq_some_iff.1 ho).1
          have hbf : (fun j => (listed.setIfInBounds i true).getD j false) = updB i (fun j => listed.getD j false) := by
            funext j
            unfold updB
            by_cases e : j = i
            · subst e
              rw [if_pos rfl]
              have : j < listed.size := by rw [hs]; exact hlt
              simp [Array.getD, this]
            · rw [if_neg e, getD_set_ne false (Ne.symm e)]
          have hbi : listed.getD i false = false := by
            rw [← getD_flip (by rw [hs]; exact hlt)]; exact h1
          rw [hbf]
          have d := hall
          have hcases : i = 0 ∨ i = 1 ∨ i = 2 ∨ i = 3 ∨ i = 4 ∨ i = 5 ∨ i = 6 ∨ i = 7 ∨ i = 8 ∨ i = 9 ∨ i = 10 ∨ i = 11 := by omega
          rcases hcases with rfl | rfl | rfl | rfl | rfl | rfl | rfl | rfl | rfl | rfl | rfl | rfl
          · cases ho
            have n10 : listed.getD 10 false = false := by
              cases hh : listed.getD 10 false with
              | false => rfl
              | true => exact absurd (hc 10 _ rfl hh { on := 0, ground := .phase } (by simp) rfl) (by rw [hbi]; decide)
            have q6 : Boxed w' w1.heap.size 27 (if listed.getD 10 false = true then t24 else v) := h.q6
            simp only [n10, Bool.false_eq_true, if_false] at q6
            have c6 := q6.cell
            refine op_value (v := v) (w' := w') rfl rfl ?_ ⟨v, t21, t22, t23, t24, t25, t26, t27, t28, t29, rfl, h.s0⟩
            unfold actB
            go_simp
          · cases ho
            refine op_value (v := .pointer (some ⟨Bx, 0, none⟩)) (w' := w') rfl rfl ?_ ⟨t20, _, t22, t23, t24, t25, t26, t27, t28, t29, rfl, h.s1⟩
            unfold actB
            go_simp
          · cases ho
            obtain rfl := h.f1 (hall { on := 1, ground := .data } (by simp) rfl)
            have cx := h.qx.c0
            refine op_value (v := .string x.1) (w' := w') rfl rfl ?_ ⟨t20, _, _, t23, t24, t25, t26, t27, t28, t29, rfl, h.s2⟩
            unfold actB
            go_simp
          · cases ho
            obtain rfl := h.f2 (hall { on := 2, ground := .data } (by simp) rfl)
            refine op_value (v := .slice (some ⟨w'.heap.size, 0, none⟩) 1 1) (w' := w'.alloc (.cells #[.string x.1] 9)) rfl rfl ?_ ⟨t20, t21, _, _, t24, t25, t26, t27, t28, t29, rfl, h.s3⟩
            unfold actB
            go_simp
          · cases ho
            have n10 : listed.getD 10 false = false := by
              cases hh : listed.getD 10 false with
              | false => rfl
              | true => exact absurd (hc 10 _ rfl hh { on := 4, ground := .data } (by simp) rfl) (by rw [hbi]; decide)
            obtain rfl := h.f0 (hall { on := 0, ground := .data } (by simp) rfl)
            obtain ⟨g, rfl, hg⟩ := h.f3 (hall { on := 3, ground := .data } (by simp) rfl) hbi
            have hz := infoS
            rw [Option.map_eq_some_iff] at hz
            obtain ⟨inf, hi1, hi2⟩ := hz
            simp only [Prod.mk.injEq] at hi2
            refine op_append (P := Tryz.prog) rfl rfl (.tmp 20) (.tmp 23) 27 rfl w.heap.size 9 inf (.string .empty) 1 16 (by kernel_rfl) hi1 hi2.1 hi2.2.1 hi2.2.2 rfl (by decide) t20 pre.length (pre.map strV) rfl (h.r4 hbi) ⟨g, 0, none⟩ 1 1 [.string x.1] rfl rfl (fun j y hj => ?_) (fun y hy => by simp at hy; subst hy; rfl) (by simp only [maxLen]; omega) (by omega) (Nat.le_trans h.sz.1 h.sz.2) fun v' w2 k1 k2 k3 => ⟨t20, t21, t22, _, v', t25, t26, t27, t28, t29, rfl, h.s4 hbi n10 k1 k2 k3 hvB (by omega)⟩
            match j, hj with
            | 0, hj =>
              simp at hj
              subst hj
              exact hg.cell
          · cases ho
            have n11 : listed.getD 11 false = false := by
              cases hh : listed.getD 11 false with
              | false => rfl
              | true => exact absurd (hc 11 _ rfl hh { on := 5, ground := .phase } (by simp) rfl) (by rw [hbi]; decide)
            have q7 : Boxed w' (w1.heap.size + 1) 48 (if listed.getD 11 false = true then t29 else u) := h.q7
            simp only [n11, Bool.false_eq_true, if_false] at q7
            have c7 := q7.cell
            refine op_value (v := u) (w' := w') rfl rfl ?_ ⟨t20, t21, t22, t23, t24, u, t26, t27, t28, t29, rfl, h.s5⟩
            unfold actB
            go_simp
          · cases ho
            refine op_value (v := .pointer (some ⟨Bx, 2, none⟩)) (w' := w') rfl rfl ?_ ⟨t20, t21, t22, t23, t24, t25, _, t27, t28, t29, rfl, h.s6⟩
            unfold actB
            go_simp
          · cases ho
            obtain rfl := h.f6 (hall { on := 6, ground := .data } (by simp) rfl)
            have cx := h.qx.c2
            refine op_value (v := .bool x.2.2) (w' := w') rfl rfl ?_ ⟨t20, t21, t22, t23, t24, t25, _, _, t28, t29, rfl, h.s7⟩
            unfold actB
            go_simp
          · cases ho
            obtain rfl := h.f7 (hall { on := 7, ground := .data } (by simp) rfl)
            refine op_value (v := .slice (some ⟨w'.heap.size, 0, none⟩) 1 1) (w' := w'.alloc (.cells #[.bool x.2.2] 4)) rfl rfl ?_ ⟨t20, t21, t22, t23, t24, t25, t26, _, _, t29, rfl, h.s8⟩
            unfold actB
            go_simp
          · cases ho
            have n11 : listed.getD 11 false = false := by
              cases hh : listed.getD 11 false with
              | false => rfl
              | true => exact absurd (hc 11 _ rfl hh { on := 9, ground := .data } (by simp) rfl) (by rw [hbi]; decide)
            have l4 : listed.getD 4 false = true := hall { on := 4, ground := .chain } (by simp) rfl
            obtain rfl := h.f5 (hall { on := 5, ground := .data } (by simp) rfl)
            obtain ⟨g, rfl, hg⟩ := h.f8 (hall { on := 8, ground := .data } (by simp) rfl) hbi
            have hz := infoB
            rw [Option.map_eq_some_iff] at hz
            obtain ⟨inf, hi1, hi2⟩ := hz
            simp only [Prod.mk.injEq] at hi2
            refine op_append (P := Tryz.prog) rfl rfl (.tmp 25) (.tmp 28) 48 rfl w.heap.size 4 inf (.bool false) 1 1 (by kernel_rfl) hi1 hi2.1 hi2.2.1 hi2.2.2 rfl (by decide) t25 pre.length (pre.map booV) rfl (h.r9 hbi) ⟨g, 0, none⟩ 1 1 [.bool x.2.2] rfl rfl (fun j y hj => ?_) (fun y hy => by simp at hy; subst hy; rfl) (by simp only [maxLen]; omega) (by omega) (Nat.le_trans h.sz.1 h.sz.2) fun v' w2 k1 k2 k3 => ⟨t20, t21, t22, t23, t24, t25, t26, t27, _, v', rfl, h.s9 l4 hbi n11 k1 k2⟩
            match j, hj with
            | 0, hj =>
              simp at hj
              subst hj
              exact hg.cell
          · cases ho
            have l4 : listed.getD 4 false = true := hall { on := 4, ground := .data } (by simp) rfl
            have l9 : listed.getD 9 false = true := hall { on := 9, ground := .chain } (by simp) rfl
            have c6 := h.q6.cell
            have e6 := h.q6.frozen
            refine op_skip (w' := w'.setCell ⟨w1.heap.size, 0, none⟩ t24) rfl rfl ?_ ⟨t20, t21, t22, t23, t24, t25, t26, t27, t28, t29, rfl, h.s10 l4 l9 (by omega) (by omega) (by omega) (by omega)⟩
            unfold actB
            rcases (h.r4' l4).1.2 with ⟨rfl, _⟩ | ⟨g, cap, cur, rfl, _⟩ <;> go_simp
          · cases ho
            have l4 : listed.getD 4 false = true := hall { on := 4, ground := .phase } (by simp) rfl
            have l9 : listed.getD 9 false = true := hall { on := 9, ground := .data } (by simp) rfl
            have c7 := h.q7.cell
            have e7 := h.q7.frozen
            refine op_skip (w' := w'.setCell ⟨w1.heap.size + 1, 0, none⟩ t29) rfl rfl ?_ ⟨t20, t21, t22, t23, t24, t25, t26, t27, t28, t29, rfl, h.s11 l4 l9 (by omega) (by omega) (by omega) (by omega)⟩
            unfold actB
            rcases (h.r9' l9).2 with ⟨rfl, _⟩ | ⟨g, cap, cur, rfl, _⟩ <;> go_simp
    case done =>
      rintro D xs W hD hS ⟨⟨⟨⟨v, hv, hrow, hvB, hv0⟩, ⟨u, hu, hrow2, hu0⟩⟩, ⟨y2, y3⟩, y4⟩, hB, hpos⟩ hK
      have hws : WsR s.data.toList 0 (some (shows xs)) := by
        rcases hS with ⟨p, hp, hfin⟩ | ⟨pre, p, fr, t, rfl, _, _⟩
        · simpa using hp.ws (.fin hfin)
        · exact absurd (hpos (t, -1, true) (by simp)) (show ¬ (0 : Int) ≤ -1 by decide)
      have cV := hv.cell
      have cU := hu.cell
      have d2 := y2.cell
      have d3 := y3.cell
      have d4 := y4.cell
      have e2 := y2.frozen
      have e3 := y3.frozen
      have e4 := y4.frozen
      gi_wp2
      have hLet : ¬ LetsOut (bodyPostM Fence.wide 6 Tryz.prog Tryz.f21 fun e W' => WOut s w e W') := fun ⟨_, _, hh⟩ => by
        rcases hh.2 with ⟨_, hh⟩ | ⟨_, _, hh⟩ | ⟨_, _, _, _, _, _, _, _, hh⟩ <;> cases hh
      refine region_invW (Inv := fun listed a w' => ∃ t30 t31, a = actE w.heap.size w1.heap.size D s t30 t31 ∧ SIn w.heap.size w1.heap.size v u xs.length (xs.map strV) (xs.map booV) W (fun j => listed.getD j false) t30 t31 w') (by kernel_rfl) (fun ⟨a, w', h⟩ => hLet ⟨a, w', h⟩) (by kernel_rfl) (by kernel_rfl) ?step ?fin ?start
      case start =>
        refine ⟨undef, undef, rfl, SIn.drew ?_⟩
        have hb0 : ∀ j, (Array.replicate 5 false).getD j false = false := fun j => by
          by_cases hj : j < 5
          · simp [Array.getD, hj]
          · simp [Array.getD, hj]
        have no : ∀ (j : Nat) (p : Prop), (Array.replicate 5 false).getD j false = true → p := fun j p hh => by rw [hb0 j] at hh; cases hh
        refine ⟨fun hh => no _ _ hh, fun hh => no _ _ hh, ?_, ?_, y4, hv, hu, hrow, hrow2, KeepsOthers.refl _, Below.refl _ _⟩
        · show Boxed W w.heap.size 27 (if (Array.replicate 5 false).getD 2 false = true then v else .slice none 0 0)
          rw [hb0]
          exact y2
        · show Boxed W (w.heap.size + 1) 48 (if (Array.replicate 5 false).getD 3 false = true then u else .slice none 0 0)
          rw [hb0]
          exact y3
      case fin =>
        rintro listed a w' hall ⟨t30, t31, rfl, h⟩
        have e2 : listed.getD 2 false = true := hall 2 (by decide)
        have e3 : listed.getD 3 false = true := hall 3 (by decide)
        have p2 := h.p2
        have p3 := h.p3
        rw [if_pos e2] at p2
        rw [if_pos e3] at p3
        have hK' := h.ko.same D _ hK rfl
        unfold actE
        gi_wp2
        refine ⟨by simp, .inl ⟨_, _, rfl, run_takeDeferred hK', ?_⟩⟩
        have gb := grownBy_putObj' w' D (.deferred none)
        have q2 := p2.kept gb (fun e => by cases e; omega)
        have q3 := p3.kept gb (fun e => by cases e; omega)
        have q4 := h.p4.kept gb (fun e => by cases e; omega)
        have nD : ∀ {e size k : Nat} {x : Value} {ys : List Value}, w'.ownsRow w.heap.size e size x k ys → x.ownBlock = none ∨ x.ownBlock ≠ some D := fun {e size k x ys} hr => by
          rcases hr.2 with ⟨rfl, _⟩ | ⟨g, cap, cur, rfl, _, hgb, _⟩
          · exact .inl rfl
          · refine .inr fun e' => ?_
            obtain rfl : g = D := by simpa [Value.ownBlock] using e'
            rw [hgb] at hK'
            cases hK'
        refine ⟨_, words_results rfl rfl rfl q2.cell q3.cell q4.cell, ?_, .inr (.inr ⟨hr0, xs, v, u, hws, fun hx => ⟨hv0 hx, hu0 hx⟩, h.rv.kept gb (nD h.rv), h.ru.kept gb (nD h.ru), rfl⟩)⟩
        exact (hB.trans h.be).trans (belowK_b (w := w) (Nat.le_refl _) w' D _ _ (by omega) hK' rfl rfl)
      case step =>
        rintro listed a w' i hs hc hi ⟨t30, t31, rfl, h⟩
        obtain ⟨h1, oi, ho, hall⟩ := mem_ready.1 hi
        have hlt : i < 5 := (Array.getElem?_eq_some_iff.1 ho).1
        have hbf : (fun j => (listed.setIfInBounds i true).getD j false) = updB i (fun j => listed.getD j false) := by
          funext j
          unfold updB
          by_cases e : j = i
          · subst e
            rw [if_pos rfl]
            have : j < listed.size := by rw [hs]; exact hlt
            simp [Array.getD, this]
          · rw [if_neg e, getD_set_ne false (Ne.symm e)]
        rw [hbf]
        have hcases : i = 0 ∨ i = 1 ∨ i = 2 ∨ i = 3 ∨ i = 4 := by omega
        have c6 := h.p6.cell
        have c7 := h.p7.cell
        have cc2 := h.p2.cell
        have cc3 := h.p3.cell
        have cc4 := h.p4.cell
        have g2 := h.p2.frozen
        have g3 := h.p3.frozen
        have g4 := h.p4.frozen
        rcases hcases with rfl | rfl | rfl | rfl | rfl
        · cases ho
          refine op_value (v := v) (w' := w') rfl rfl ?_ ⟨v, t31, rfl, h.s0⟩
          unfold actE
          go_simp
        · cases ho
          refine op_value (v := u) (w' := w') rfl rfl ?_ ⟨t30, u, rfl, h.s1⟩
          unfold actE
          go_simp
        · cases ho
          obtain rfl := h.f0 (hall { on := 0, ground := .data } (by simp) rfl)
          refine op_skip (w' := w'.setCell ⟨w.heap.size, 0, none⟩ t30) rfl rfl ?_ ⟨t30, t31, rfl, h.s2 (by omega)⟩
          unfold actE
          rcases h.rv.2 with ⟨rfl, _⟩ | ⟨g, cap, cur, rfl, _⟩ <;> go_simp
        · cases ho
          obtain rfl := h.f1 (hall { on := 1, ground := .data } (by simp) rfl)
          refine op_skip (w' := w'.setCell ⟨w.heap.size + 1, 0, none⟩ t31) rfl rfl ?_ ⟨t30, t31, rfl, h.s3 (by omega)⟩
          unfold actE
          rcases h.ru.2 with ⟨rfl, _⟩ | ⟨g, cap, cur, rfl, _⟩ <;> go_simp
        · cases ho
          refine op_skip (w' := w'.setCell ⟨w.heap.size + 1 + 1, 0, none⟩ (.int .i64 0)) rfl rfl ?_ ⟨t30, t31, rfl, h.s4 (by omega)⟩
          unfold actE
          go_simp
    case stop =>
      rintro D c pre W hD hpre ⟨⟨⟨y2, y3⟩, y4⟩, hB, rfl, x, hx, hneg⟩ hK
      have hws : WsR s.data.toList 0 none := by
        rcases hpre with ⟨p, hp⟩ | ⟨pre', p, fr, t, rfl, hp, hbad⟩
        · have := hp.le.2.2 x hx
          omega
        · simpa using hp.ws (.bad hbad)
      gi_wp2
      refine ⟨by simp, .inl ⟨_, _, rfl, run_takeDeferred hK, ?_⟩⟩
      have gb := grownBy_putObj' W D (.deferred none)
      have q2 := y2.kept gb (fun e => by cases e; omega)
      have q3 := y3.kept gb (fun e => by cases e; omega)
      have q4 := y4.kept gb (fun e => by cases e; omega)
      refine ⟨_, words_results rfl rfl rfl q2.cell q3.cell q4.cell, ?_, .inr (.inl ⟨hr0, hws, rfl⟩)⟩
      exact hB.trans (belowK_b (w := w) (Nat.le_refl _) W D _ _ (by omega) hK rfl rfl)
end Go.Proofs.YtdmemibnphcedaaGreatDoor
end
section
set_option linter.unusedSimpArgs false
set_option linter.unusedVariables false
set_option maxRecDepth 10000
set_option linter.unusedSectionVars false
namespace Go.Proofs.YtdmemibnphcedaaGreatDoor
open Go.Am
open Go.RowKit (Below)

open Classical in
noncomputable def wordsO (L : List UInt8) : Option (List (List UInt8 × Bool)) := if h : ∃ r, WsR L 0 r then Classical.choose h else none
theorem wordsO_eq {L : List UInt8} {r : Option (List (List UInt8 × Bool))} (h : WsR L 0 r) : wordsO L = r := by
  unfold wordsO
  have hx : ∃ r, WsR L 0 r := ⟨r, h⟩
  rw [dif_pos hx]
  exact (Classical.choose_spec hx).unique h

def wsS (l : List (List UInt8 × Bool)) : List Value := l.map fun x => .string (bs x.1)
def wsB (l : List (List UInt8 × Bool)) : List Value := l.map fun x => .bool x.2
def nil3 (e : Int) : Value := .tuple #[.slice none 0 0, .slice none 0 0, .int .i64 e]
noncomputable def wordsK (s : ByteArray) (st : St) : Value × St :=
  if readA s ≠ 0 then (nil3 (readA s), st)
  else match wordsO s.data.toList with
    | none => (nil3 250, st)
    | some [] => (nil3 0, st)
    | some (x :: l) => (.tuple #[.slice (some ⟨st.next, 0, none⟩) (l.length + 1) (l.length + 1), .slice (some ⟨st.next + 1, 0, none⟩) (l.length + 1) (l.length + 1), .int .i64 0], (st.new (.row (wsS (x :: l)) 1 false)).new (.row (wsB (x :: l)) 1 false))

noncomputable def orcW : CallF := fun f args st =>
  if f = 21 then (match args with
    | [.string s] => if hasMax st = true then .ret (wordsK s st) else .fail
    | _ => .fail)
  else (callO T0 orc fns 100000 60) f args st

theorem nil3_rel {μ : Nat → Spot} {n : Nat} (e : Int) : VR μ n (nil3 e) (nil3 e) := .tuple _ _ (.cons _ _ _ _ .nilSlice (.cons _ _ _ _ .nilSlice (.cons _ _ _ _ (.int _ _) .nil)))

/-- a row of plain values that a call has left -/
theorem Rel.named {B0 : Nat} {W0 w : World} {μ : Nat → Spot} {s : St} (h : Rel B0 W0 μ s w) {cs : List Value} {e : TypeId} {v : Value} {b0 : Nat} (hb0 : B0 ≤ b0) (hrow : w.ownsRow b0 e 1 v cs.length cs) (hcs : ∀ (μ : Nat → Spot) (n : Nat), VRs μ n cs cs) (hne : v ≠ .slice none 0 0)
    (hal : ∀ j oj, s.get j = some oj → some (μ j).block ≠ v.ownBlock) :
    ∃ sp : Spot, v.ownBlock = some sp.block ∧ Rel B0 W0 (upd μ s.next sp) (s.new (.row cs 1 false)) w ∧ VR (upd μ s.next sp) (s.next + 1) (.slice (some ⟨s.next, 0, none⟩) cs.length cs.length) v := by
  rcases hrow.2 with ⟨rfl, _⟩ | ⟨g, cap, cur, rfl, hbg, hgb, hcap, _, hsz, htk⟩
  · exact (hne rfl).elim
  rw [Nat.mul_one] at hsz htk
  have hlt : g < w.heap.size := (Array.getElem?_eq_some_iff.1 hgb).1
  refine ⟨⟨g, 0, cap, 1⟩, rfl, h.rename _ ⟨g, 0, cap, 1⟩ hlt ⟨by rw [Go.Am.upd_same], ?_, fun j x hj => ?_, (fun hh => by cases hh), fun _ => ⟨?_, fun x _ hx => ?_, fun hh => by cases hh⟩⟩ (fun _ j oj hj _ => ?_), ?_⟩
  · rw [Go.Am.upd_same]; simpa using hcap
  · rw [Go.Am.upd_same]
    obtain ⟨x', h1, h2⟩ := (hcs (upd μ s.next ⟨g, 0, cap, 1⟩) (s.next + 1)).get hj
    refine ⟨x', ?_, h2⟩
    have : cur.toList[j]? = some x' := by
      have hjl : j < cs.length := (List.getElem?_eq_some_iff.1 hj).1
      rw [← htk, List.getElem?_take_of_lt hjl] at h1
      exact h1
    simp only [World.cell?, hgb, Nat.zero_add]
    simpa using this
  · rw [Go.Am.upd_same]; exact Nat.le_trans hb0 hbg
  · rw [Go.Am.upd_same] at hx ⊢
    refine ⟨?_, ?_⟩
    · simp only [World.cell?, hgb]
      simp only at hx
      rw [Array.getElem?_eq_getElem (by omega)]
      rfl
    · simp [World.frozen?, hgb]
  · exact fun e => hal j oj hj (by rw [e]; rfl)
  · have := VR.slice (μ := upd μ s.next ⟨g, 0, cap, 1⟩) (n := s.next + 1) s.next 0 0 cs.length cs.length cap (by omega) (Nat.le_refl _) hcap (fun hh => by rw [Go.Am.upd_same] at hh; cases hh) (fun _ => by rw [Go.Am.upd_same]) (by rw [Go.Am.upd_same]; exact Nat.le_refl _) (fun _ => by rw [Go.Am.upd_same]; simp)
    rw [Go.Am.upd_same] at this
    exact this

theorem wsS_rel {μ : Nat → Spot} {n : Nat} : ∀ l, VRs μ n (wsS l) (wsS l)
  | [] => .nil
  | _ :: l => .cons _ _ _ _ (.string _) (wsS_rel l)
theorem wsB_rel {μ : Nat → Spot} {n : Nat} : ∀ l, VRs μ n (wsB l) (wsB l)
  | [] => .nil
  | _ :: l => .cons _ _ _ _ (.bool _) (wsB_rel l)
theorem shows_S (xs : List WV) : xs.map strV = wsS (shows xs) := by
  simp only [wsS, shows, List.map_map]
  exact List.map_congr_left fun x _ => by simp [strV, bs_of]
theorem shows_B (xs : List WV) : xs.map booV = wsB (shows xs) := by
  simp only [wsB, shows, List.map_map]
  exact List.map_congr_left fun x _ => rfl

theorem words_ok {s : ByteArray} {st : St} {Q : Value × St → Prop} (hm : hasMax st = true) (h : Q (wordsK s st)) : CallOk Tryz.prog 21 [.string s] st Q := by
  intro B0 W0 μ w args hr hg ha
  rw [ha.str1]
  obtain ⟨m, hm1⟩ := max_cell hr hg hm
  have h0 : 0 < w.heap.size := by
    unfold hasMax at hm
    split at hm
    · rename_i m' g ro hget
      have := (hr.known 0 _ hget).2.1
      omega
    · cases hm
  refine (words_walk s w m hm1 h0).mono fun e w' hw => ?_
  obtain ⟨hb, hw⟩ := hw
  have hr' : Rel B0 W0 μ st w' := hr.later hb
  rcases hw with ⟨h1, rfl⟩ | ⟨h1, h2, rfl⟩ | ⟨h1, xs, v, u, h2, h3, h4, h5, rfl⟩
  · have e : wordsK s st = (nil3 (readA s), st) := by unfold wordsK; rw [if_pos h1]
    rw [e] at h
    exact ⟨_, _, _, h, rfl, μ, Agree.refl _ _, hr', nil3_rel _⟩
  · have e : wordsK s st = (nil3 250, st) := by unfold wordsK; rw [if_neg (by rw [h1]; decide), wordsO_eq h2]
    rw [e] at h
    exact ⟨_, _, _, h, rfl, μ, Agree.refl _ _, hr', nil3_rel _⟩
  · rw [shows_S] at h4
    rw [shows_B] at h5
    have hl : xs.length = (shows xs).length := by simp [shows]
    have hl1 : xs.length = (wsS (shows xs)).length := by simp [shows, wsS]
    have hl2 : xs.length = (wsB (shows xs)).length := by simp [shows, wsB]
    cases hx : shows xs with
    | nil =>
      have hxs : xs = [] := by
        rw [hx] at hl
        exact List.length_eq_zero_iff.1 hl
      obtain ⟨rfl, rfl⟩ := h3 hxs
      rw [hx] at h2
      have e : wordsK s st = (nil3 0, st) := by unfold wordsK; rw [if_neg (by rw [h1]; decide), wordsO_eq h2]
      rw [e] at h
      exact ⟨_, _, _, h, rfl, μ, Agree.refl _ _, hr', nil3_rel _⟩
    | cons x l =>
      rw [hl1] at h4
      rw [hl2] at h5
      rw [hx] at h2 h4 h5
      have e : wordsK s st = (.tuple #[.slice (some ⟨st.next, 0, none⟩) (l.length + 1) (l.length + 1), .slice (some ⟨st.next + 1, 0, none⟩) (l.length + 1) (l.length + 1), .int .i64 0], (st.new (.row (wsS (x :: l)) 1 false)).new (.row (wsB (x :: l)) 1 false)) := by
        unfold wordsK; rw [if_neg (by rw [h1]; decide), wordsO_eq h2]
      rw [e] at h
      have hv : v ≠ .slice none 0 0 := by
        rintro rfl
        rcases h4.2 with ⟨_, hh⟩ | ⟨g, cap, cur, hh, _⟩
        · simp [wsS] at hh
        · cases hh
      have hu : u ≠ .slice none 0 0 := by
        rintro rfl
        rcases h5.2 with ⟨_, hh⟩ | ⟨g, cap, cur, hh, _⟩
        · simp [wsB] at hh
        · cases hh
      have hB := hr.size
      have old : ∀ j oj, st.get j = some oj → (μ j).block < w.heap.size := fun j oj hj => (hr.known j oj hj).2.1
      obtain ⟨sp1, o1, r1, k1⟩ := Rel.named hr' hB h4 (fun μ n => wsS_rel _) hv (fun j oj hj hh => by
        have := (h4.lt _ hh.symm).1
        have := old j oj hj
        omega)
      obtain ⟨sp2, o2, r2, k2⟩ := Rel.named r1 hB h5 (fun μ n => wsB_rel _) hu (fun j oj hj hh => by
        by_cases hn : j = st.next
        · subst hn
          rw [Go.Am.upd_same] at hh
          rcases rows_ne (by decide) h5 h4 with q | q
          · rw [q] at hh; cases hh
          · exact q (by rw [o1]; exact hh.symm)
        · rw [St.get_new, if_neg (by omega)] at hj
          have e2 : upd μ st.next sp1 j = μ j := by simp [upd, hn]
          rw [e2] at hh
          have := (h5.lt _ hh.symm).1
          have := old j oj hj
          omega)
      have a1 := upd_agree (μ := μ) sp1 st.next
      have a2 := upd_agree (μ := upd μ st.next sp1) sp2 (st.next + 1)
      refine ⟨_, _, _, h, rfl, _, a1.trans a2, r2, .tuple _ _ (.cons _ _ _ _ ?_ (.cons _ _ _ _ ?_ (.cons _ _ _ _ (.int _ _) .nil)))⟩
      · have := k1.mono a2
        simpa [wsS] using this
      · simpa [wsB] using k2

theorem orcW_sound : FSound Tryz.prog orcW := by
  intro f vs s Q h
  unfold orcW at h
  split at h
  · rename_i hf
    subst hf
    split at h
    · refine ⟨⟨Tryz.f21, Tryz.func21, by kernel_rfl, by kernel_rfl⟩, ?_⟩
      split at h
      · rename_i hc
        exact words_ok hc h
      · exact h.elim
    · exact h.elim
  · exact (callO_sound (by kernel_rfl) T0_ok orc_sound (lookFn_ok fns_ok) 100000 60 T0_dfr) f vs s Q h

/-- the laws over lines, above the rest -/
def tblW : List (Nat × GFn) := [(5, g5), (6, g6)]
abbrev fnsW : FuncId → Option AFn := lookFn tblW
theorem fnsW_ok : AllOk Tryz.prog tblW := ⟨g5_ok, g6_ok, trivial⟩
theorem soundW (M : Nat) : FSound Tryz.prog (callO T0 orcW fnsW M 1) := callO_sound (by kernel_rfl) T0_ok orcW_sound (lookFn_ok fnsW_ok) M 1 T0_dfr

section
variable {st : St} {K : Value → St → Prop} {M : Nat}
/-- below the laws -/
theorem kBelow {f : FuncId} {args : List Value} (n : Nat) (h1 : fnsW f = none) (h2 : f ≠ 21) (h : callK (callO T0 orc fns 100000 60) f args st K) : callK (callO T0 orcW fnsW M n) f args st K := by
  rw [callO_none h1]
  unfold callK orcW
  rw [if_neg h2]
  exact h
/-- what words there are, and the error -/
def WO (s : ByteArray) (l : List (List UInt8 × Bool)) (e : Int) : Prop :=
  (readA s ≠ 0 ∧ l = [] ∧ e = readA s) ∨ (readA s = 0 ∧ wordsO s.data.toList = none ∧ l = [] ∧ e = 250) ∨ (readA s = 0 ∧ wordsO s.data.toList = some l ∧ e = 0)
theorem WO.unique {s : ByteArray} {l l' : List (List UInt8 × Bool)} {e e' : Int} (h : WO s l e) (k : WO s l' e') : l = l' ∧ e = e' := by
  rcases h with ⟨h1, rfl, rfl⟩ | ⟨h1, h2, rfl, rfl⟩ | ⟨h1, h2, rfl⟩ <;> rcases k with ⟨k1, rfl, rfl⟩ | ⟨k1, k2, rfl, rfl⟩ | ⟨k1, k2, rfl⟩ <;>
    first | exact ⟨rfl, rfl⟩ | exact (h1 k1).elim | exact (k1 h1).elim | (rw [h2] at k2; cases k2; done) | (rw [h2] at k2; cases k2; exact ⟨rfl, rfl⟩)
theorem kWords (n : Nat) (s : ByteArray) (hm : hasMax st = true)
    (h : ∀ l e v u st', WO s l e → Cel st' v (wsS l) → Cel st' u (wsB l) → ow v ≤ st'.next ∧ ow u ≤ st'.next → Frm st st' → K (.tuple #[v, u, .int .i64 e]) st') :
    callK (callO T0 orcW fnsW M n) 21 [.string s] st K := by
  rw [callO_none (by rfl)]
  have e : orcW 21 [.string s] st = .ret ((wordsK s st).1, (wordsK s st).2) := by
    unfold orcW
    rw [if_pos rfl]
    simp only [hm, if_true]
  refine (propext (callK_ret (K := K) e)).mpr ?_
  unfold wordsK
  by_cases hr : readA s = 0
  · rw [if_neg (by rw [hr]; decide)]
    cases hw : wordsO s.data.toList with
    | none => exact h [] 250 _ _ st (.inr (.inl ⟨hr, hw, rfl, rfl⟩)) (.inl ⟨rfl, rfl⟩) (.inl ⟨rfl, rfl⟩) ⟨Nat.zero_le _, Nat.zero_le _⟩ (Frm.refl _)
    | some l =>
      cases l with
      | nil => exact h [] 0 _ _ st (.inr (.inr ⟨hr, hw, rfl⟩)) (.inl ⟨rfl, rfl⟩) (.inl ⟨rfl, rfl⟩) ⟨Nat.zero_le _, Nat.zero_le _⟩ (Frm.refl _)
      | cons x l =>
        refine h (x :: l) 0 _ _ _ (.inr (.inr ⟨hr, hw, rfl⟩)) ?_ ?_ ⟨Nat.le_succ _, Nat.le_refl _⟩ ((Frm.new _ _).trans (Frm.new _ _))
        · refine cel_row (g := 1) (ro := false) ?_ (by simp [wsS])
          rw [get_new_ne _ _ _ (by show st.next + 1 ≠ st.next; omega), get_new_same]
        · exact cel_row (g := 1) (ro := false) (get_new_same _ _) (by simp [wsB])
  · rw [if_pos hr]
    exact h [] _ _ _ st (.inl ⟨hr, rfl, rfl⟩) (.inl ⟨rfl, rfl⟩) (.inl ⟨rfl, rfl⟩) ⟨Nat.zero_le _, Nat.zero_le _⟩ (Frm.refl _)
end
end Go.Proofs.YtdmemibnphcedaaGreatDoor
end
section
set_option linter.unusedSimpArgs false
set_option linter.unusedVariables false
set_option maxRecDepth 10000
set_option linter.unusedSectionVars false
namespace Go.Proofs.YtdmemibnphcedaaGreatDoor
open Go.Am
attribute [local irreducible] callO wopK ropK popK opK grpsE listE sx Runs

theorem AgR.sub {ok ok' : Nat → Prop} {g : Bool} {st : St} {v : Value} {ns : List ByteArray} {cs : List Cl} (h : AgR ok g st v ns cs) (hok : ∀ n, ok n → n ≤ st.next → ok' n) : AgR ok' g st v ns cs := by
  obtain ⟨es, vf, h1, h2, h3, h4, h5⟩ := h
  refine ⟨es, vf, h1, h2.imp id fun h => hok _ h h3, h3, h4, fun j hj => ?_⟩
  obtain ⟨k1, k2, k3, k4⟩ := h5 j hj
  exact ⟨k1, k2.imp id fun h => ⟨hok _ h.1 k3, h.2⟩, k3, k4⟩
theorem AgR.nam {ok : Nat → Prop} {g : Bool} {st : St} {v : Value} {ns : List ByteArray} {cs : List Cl} (h : AgR ok g st v ns cs) (k : Nat) : AgR ok g st v ns (upd' cs k Cl.nam) := by
  obtain ⟨es, vf, h1, h2, h3, h4, h5⟩ := h
  have e : ∀ j, j < cs.length → (clAt (upd' cs k Cl.nam) j).vals = (clAt cs j).vals ∧ (clAt (upd' cs k Cl.nam) j).set = (clAt cs j).set := fun j hj => by
    by_cases e : k = j
    · subst e; rw [upd_same _ _ _ hj]; exact ⟨rfl, rfl⟩
    · rw [upd_ne _ _ _ _ e]; exact ⟨rfl, rfl⟩
  refine ⟨es, vf, by rw [upd_len]; exact h1, h2, h3, fun j hj => ?_, fun j hj => ?_⟩
  · rw [upd_len] at hj
    rw [(e j hj).2]
    exact h4 j hj
  · rw [upd_len] at hj ⊢
    rw [(e j hj).1]
    exact h5 j hj

/-- the arguments and which were named; a block that may be written besides -/
structure AgS (s0 st : St) (av : Value) (bn b0 : Nat) (l : List IM) (cs : List Cl) : Prop where
  frm : Frm s0 st
  ag : AgR (fun n => s0.next + 1 ≤ n ∧ n ≠ bn + 1 ∧ n ≠ b0 + 1) true st av (l.map nm0) cs
  nmd : ∃ g, st.get bn = some (.row (cs.map fun c => .bool c.nm) g false)
  bn1 : s0.next ≤ bn
  bn2 : bn < st.next
  len : cs.length = l.length

section
variable {s0 st st' : St} {av : Value} {bn b0 k : Nat} {l : List IM} {cs : List Cl}
theorem AgS.keep (h : AgS s0 st av bn b0 l cs) (F : Frm st st') : AgS s0 st' av bn b0 l cs := by
  obtain ⟨g, hg⟩ := h.nmd
  exact ⟨h.frm.trans F, h.ag.keep F.nx fun i _ hi => F.old i hi, ⟨g, (F.old _ h.bn2).trans hg⟩, h.bn1, Nat.lt_of_lt_of_le h.bn2 F.nx, h.len⟩
theorem AgS.box (h : AgS s0 st av bn bn l cs) (hb : st.next ≤ b0) : AgS s0 st av bn b0 l cs := ⟨h.frm, h.ag.sub fun n hn hl => ⟨hn.1, hn.2.1, by omega⟩, h.nmd, h.bn1, h.bn2, h.len⟩
/-- what may be read, and how an item is named -/
theorem AgS.named (h : AgS s0 st av bn b0 l cs) (hk : k < l.length) : ∃ s1, (∀ K : Value → Prop, popK (.indexAddr 1) [.slice (some ⟨bn, 0, none⟩) l.length l.length, .int .i64 (k : Int)] K = K (.pointer (some ⟨bn, k, none⟩))) ∧ (∀ K : Value → Prop, ropK .load1 [.pointer (some ⟨bn, k, none⟩)] st K = K (.bool (clAt cs k).nm)) ∧
    (∀ W : Value → St → Prop, wopK (.store 1) [.pointer (some ⟨bn, k, none⟩), .bool true] st W = W undef s1) ∧ AgS s0 s1 av bn b0 l (upd' cs k Cl.nam) ∧ s1.next = st.next ∧ ∀ i, i ≠ bn → s1.get i = st.get i := by
  obtain ⟨g, hg⟩ := h.nmd
  have hcl := h.len
  have hl : k < (cs.map fun c => Value.bool c.nm).length := by rw [List.length_map]; omega
  refine ⟨st.put bn (some (.row (lputs (cs.map fun c => Value.bool c.nm) k [.bool true]) g false)), fun K => ?_, fun K => ?_, fun W => ?_, ?_, rfl, fun i hi => get_put_ne _ _ _ _ (Ne.symm hi)⟩
  · rw [pk_indexAddr]
    have e : (0 : Nat) + (k : Int).toNat * 1 = k := by omega
    rw [e]
    exact propext ⟨fun h => h.2, fun h => ⟨⟨by omega, by omega⟩, h⟩⟩
  · rw [rk_load1, hg]
    simp only [getK, rowK]
    exact nthK_at (map_at cs k (by omega)) K
  · rw [wk_store, hg]
    simp only [getK, rowK]
    exact propext ⟨fun h => h.2.2, fun h => ⟨rfl, ⟨by first | trivial | rfl, by omega, by rfl⟩, h⟩⟩
  · have hag := h.ag.keep (st' := st.put bn (some (.row (lputs (cs.map fun c => Value.bool c.nm) k [.bool true]) g false))) (Nat.le_refl _) fun i hi _ => get_put_ne _ _ _ _ (by omega)
    refine ⟨h.frm.put _ h.bn1 _, hag.nam k, ⟨g, ?_⟩, h.bn1, h.bn2, by rw [upd_len]; exact hcl⟩
    rw [map_upd _ _ _ (by omega), get_put_same]
    congr 2
    refine List.ext_getElem? fun i => ?_
    rw [lput1_get _ _ _ hl]
    by_cases e : i = k
    · subst e; rw [if_pos rfl, List.getElem?_set_self hl]; rfl
    · rw [if_neg e, List.getElem?_set_ne (Ne.symm e)]

theorem map_same (cs : List Cl) (k : Nat) (f : Cl → Cl) (hf : ∀ c, (f c).nm = c.nm) : (upd' cs k f).map (fun c => Value.bool c.nm) = cs.map fun c => Value.bool c.nm := by
  by_cases hk : k < cs.length
  · rw [map_upd _ _ _ hk]
    refine List.ext_getElem? fun i => ?_
    by_cases e : k = i
    · subst e; rw [List.getElem?_set_self (by rw [List.length_map]; exact hk), map_at cs k hk, hf]
    · rw [List.getElem?_set_ne e]
  · have : upd' cs k f = cs := List.set_eq_of_length_le (by omega)
    rw [this]

/-- an argument: where it is; how it is set -/
theorem AgS.arg (h : AgS s0 st av bn b0 l cs) (hk : k < l.length) : ∃ b s1, ow av = b + 1 ∧ s0.next ≤ b ∧ b < st.next ∧ b ≠ bn ∧ b ≠ b0 ∧ (∀ K : Value → Prop, popK (.indexAddr 3) [av, .int .i64 (k : Int)] K = K (.pointer (some ⟨b, k * 3, none⟩))) ∧ (∀ K : Value → Prop, ropK .load1 [.pointer (some ⟨b, k * 3 + 2, none⟩)] st K = K (.bool (clAt cs k).set)) ∧
    (∀ W : Value → St → Prop, wopK (.store 1) [.pointer (some ⟨b, k * 3 + 2, none⟩), .bool true] st W = W undef s1) ∧ AgS s0 s1 av bn b0 l (upd' cs k Cl.put) ∧ s1.next = st.next ∧ ∀ i, i ≠ b → s1.get i = st.get i := by
  obtain ⟨g, hg⟩ := h.nmd
  have hcl := h.len
  obtain ⟨b, vv, o1, o2, o3, o4, o5, o6, o7, o8, o9⟩ := h.ag.at (j := k) (by omega)
  obtain ⟨s1, z1, z2, z3, z4⟩ := h.ag.put_set (j := k) (by omega) Cl.put (fun c => ⟨rfl, rfl⟩) o1
  obtain ⟨okv, onx⟩ := h.ag.okv
  have okb : s0.next + 1 ≤ b + 1 ∧ b + 1 ≠ bn + 1 ∧ b + 1 ≠ b0 + 1 := by
    rcases okv with e | e
    · omega
    · rw [o1] at e; exact e
  have hfx := h.frm.nx
  have hb2 := h.bn2
  refine ⟨b, s1, o1, by omega, by omega, by omega, by omega, o2, o6, z1, ⟨⟨by omega, fun i hi => (z4 i (by omega)).trans (h.frm.old i hi)⟩, z2, ⟨g, ?_⟩, h.bn1, by omega, by rw [upd_len]; exact hcl⟩, z3, z4⟩
  rw [map_same cs k Cl.put fun c => rfl, z4 _ (by omega)]
  exact hg

def Cl.vl (w : ByteArray) (c : Cl) : Cl := ⟨c.vals ++ [w], c.set, c.nm⟩
/-- a value more -/
theorem AgS.push (h : AgS s0 st av bn b0 l cs) (hk : k < l.length) (w : ByteArray) (hvl : (clAt cs k).vals.length ≤ 90000) (h0 : b0 < st.next) : ∃ b vv, ow av = b + 1 ∧ b < st.next ∧ (∀ K : Value → Prop, ropK .load1 [.pointer (some ⟨b, k * 3 + 1, none⟩)] st K = K vv) ∧ cellEq vv vv = true ∧
    ∀ W : Value → St → Prop, (∀ v' s7 s8, (∀ W' : Value → St → Prop, wopK (.store 1) [.pointer (some ⟨b, k * 3 + 1, none⟩), v'] s7 W' = W' undef s8) → AgS s0 s8 av bn b0 l (upd' cs k (Cl.vl w)) → (∀ i, i = b0 → s8.get i = st.get i) → st.next ≤ s8.next → W v' s7) →
      wopK (.append 1 16) [vv, .slice (some ⟨st.next, 0, none⟩) 1 1] (st.new (.row [.string w] 0 false)) W := by
  obtain ⟨g, hg⟩ := h.nmd
  have hcl := h.len
  obtain ⟨b, vv, y1, y2, y3, y4, y5, y6, y7, y8, y9⟩ := h.ag.at (j := k) (by omega)
  obtain ⟨okv, onx⟩ := h.ag.okv
  have okb : s0.next + 1 ≤ b + 1 ∧ b + 1 ≠ bn + 1 ∧ b + 1 ≠ b0 + 1 := by
    rcases okv with e | e
    · omega
    · rw [y1] at e; exact e
  have hfx := h.frm.nx
  have hb1 := h.bn1
  have hb2 := h.bn2
  refine ⟨b, vv, y1, by omega, y5, (y7.2.2 rfl).ceq, fun W hW => ?_⟩
  obtain ⟨s6, hs6⟩ : ∃ s6, s6 = st.new (.row [.string w] 0 false) := ⟨_, rfl⟩
  have n6 : s6.next = st.next + 1 := by rw [hs6]; rfl
  have f6 : ∀ i, i < st.next → s6.get i = st.get i := fun i hi => by rw [hs6]; exact get_new_ne _ _ _ (by omega)
  have q26 := h.ag.keep (st' := s6) (by omega) fun i _ hi => f6 i hi
  have ld6 : ∀ K : Value → Prop, ropK .load1 [.pointer (some ⟨b, k * 3 + 1, none⟩)] s6 K = K vv := fun K => by
    rw [rk_load1, f6 _ (by omega), ← rk_load1]; exact y5 K
  have hsb : s6.get st.next = some (.row [.string w] 0 false) := by rw [hs6]; exact get_new_same _ _
  rw [← hs6]
  refine appendK ((y7.2.2 rfl).keep fun i hi => f6 i (by omega)) hsb rfl (by decide) rfl (by omega) (by omega) fun s7 k1 k2 k3 => ?_
  have ok8 : ow vv = 0 ∨ (s0.next + 1 ≤ ow vv ∧ ow vv ≠ bn + 1 ∧ ow vv ≠ b0 + 1) := y8.imp id fun h => h.1
  have hvl7 : VlR true s7 (.slice (some ⟨s6.next, 0, none⟩) ((clAt cs k).vals.length + 1) ((clAt cs k).vals.length + 1)) ((clAt cs k).vals ++ [w]) := by
    refine GroK.vl ?_
    rw [List.map_append, List.length_append]
    exact k1
  obtain ⟨s8, z1, z2, z3, z4⟩ := q26.put_vals (j := k) (by omega) (fun c => ⟨(clAt cs k).vals ++ [w], c.set, c.nm⟩) (fun c => ⟨rfl, rfl⟩) y1 (fun h => h) (by omega) ld6 k3 hvl7 (by show s0.next + 1 ≤ s6.next + 1 ∧ s6.next + 1 ≠ bn + 1 ∧ s6.next + 1 ≠ b0 + 1; omega) (by show s6.next < s6.next + 1; omega) (by show s6.next + 1 ≤ s7.next; omega)
  have fr8 : ∀ i, i + 1 ≠ ow vv → i ≠ b → i < st.next → s8.get i = st.get i := fun i h1 h2 h3 => (z4 i h2).trans ((k3 i h1 (by omega)).trans (f6 i h3))
  refine hW _ s7 s8 z1 ⟨⟨by omega, fun i hi => (fr8 i (by omega) (by omega) (by omega)).trans (h.frm.old i hi)⟩, z2, ⟨g, ?_⟩, hb1, by omega, by rw [upd_len]; exact hcl⟩ (fun i hi => fr8 i (by omega) (by omega) (by omega)) (by omega)
  rw [map_same cs k (Cl.vl w) fun c => rfl]
  exact (fr8 _ (by omega) (by omega) hb2).trans hg

end
end Go.Proofs.YtdmemibnphcedaaGreatDoor
end
section
set_option linter.unusedSimpArgs false
set_option linter.unusedVariables false
set_option maxRecDepth 10000
set_option linter.unusedSectionVars false
namespace Go.Proofs.YtdmemibnphcedaaGreatDoor
open Go.Am
attribute [local irreducible] callO wopK ropK popK opK grpsE listE sx Runs

theorem wdBox4 (s : St) (a b c d : Value) (ha : oneCell a = true) (hb : oneCell b = true) (hc : oneCell c = true) (hd : oneCell d = true) : ∃ s4, (∀ W : Value → St → Prop, wopK (.store 4) [.pointer (some ⟨s.next, 0, none⟩), .agg #[a, b, c, d]] (s.new (.row [.string .empty, .bool false, .int .i64 0, .int .i64 0] 0 false)) W = W undef s4) ∧ s4.get s.next = some (.row [a, b, c, d] 0 false) ∧ s4.next = s.next + 1 ∧ Frm s s4 :=
  ⟨(s.new (.row [.string .empty, .bool false, .int .i64 0, .int .i64 0] 0 false)).put s.next (some (.row [a, b, c, d] 0 false)), fun W => wk_storeK (W := W) (get_new_same s (.row [.string .empty, .bool false, .int .i64 0, .int .i64 0] 0 false)) (o := 0) (k := 4) (xs := [a, b, c, d]) (by decide) rfl (by simp [ha, hb, hc, hd]), get_put_same _ _ _, rfl, (Frm.new s _).put _ (Nat.le_refl _) _⟩
/-- the arguments so far -/
def F1 (s0 : St) (lv : Value) (s : ByteArray) (l : List IM) (vs : List Value) (st : St) : Prop :=
  ∃ (j : Nat) (av : Value), vs = [lv, .string s, av, .int .i64 (j : Nat)] ∧ j ≤ l.length ∧ Frm s0 st ∧ AgR (fun n => s0.next + 1 ≤ n) true st av (l.map nm0) (cls0 (l.take j))
/-- between two words -/
def F2 (s0 : St) (lv av : Value) (bn : Nat) (s : ByteArray) (l : List IM) (vs : List Value) (st : St) : Prop :=
  ∃ (p : Nat) (cs : List Cl), vs = [lv, .string s, av, .slice (some ⟨bn, 0, none⟩) l.length l.length, .int .i64 (p : Nat)] ∧ p ≤ s.size ∧ AgS s0 st av bn bn l cs ∧ Iv l cs ∧ (∀ k, (clAt cs k).vals.length ≤ p) ∧ ∀ q, Fits s.data.toList l p cs q → Fits s.data.toList l 0 (cls0 l) q

section
variable {st : St} {K : Value → St → Prop}

end
end Go.Proofs.YtdmemibnphcedaaGreatDoor
end
section
set_option linter.unusedSimpArgs false
set_option linter.unusedVariables false
set_option maxRecDepth 10000
set_option linter.unusedSectionVars false
namespace Go.Proofs.YtdmemibnphcedaaGreatDoor
open Go.Am

/-- the replacer's row: what stands for each byte, and the bytes that something stands for -/
abbrev nilS : Value := .slice none 0 0
def tabR (f : Nat → Value) (l : Value) : List Value := (List.range 256).map f ++ [l]
def updR (f : Nat → Value) (c : Nat) (v : Value) : Nat → Value := fun d => if d = c then v else f d

section
variable {f : Nat → Value} {l v : Value} {K : Value → Prop}
theorem tabR_len : (tabR f l).length = 257 := by simp [tabR]
theorem tabR_at {c : Nat} (h : c < 256) : (tabR f l)[c]? = some (f c) := by
  rw [tabR, List.getElem?_append_left (by simpa using h)]
  simp [h]
theorem tabR_last : (tabR f l)[256]? = some l := by
  rw [tabR, List.getElem?_append_right (by simp)]
  simp
theorem nthK_tab {c : Nat} (h : c < 256) : nthK (tabR f l) c K = K (f c) := by
  rw [nthK, tabR_at h]
theorem nthK_tabL : nthK (tabR f l) 256 K = K l := by
  rw [nthK, tabR_last]
theorem lputs_tab {c : Nat} (h : c < 256) : lputs (tabR f l) c [v] = tabR (updR f c v) l := by
  refine List.ext_getElem? fun j => ?_
  rw [lputs_get _ _ _ _ (by rw [tabR_len]; simp; omega)]
  by_cases h1 : j < c
  · rw [if_pos h1, tabR_at (by omega), tabR_at (by omega), updR, if_neg (by omega)]
  · rw [if_neg h1]
    by_cases h2 : j < c + 1
    · have : j = c := by omega
      subst this
      rw [List.length_singleton, if_pos h2, tabR_at h, updR, if_pos rfl]
      simp
    · rw [List.length_singleton, if_neg h2]
      by_cases h3 : j < 256
      · rw [tabR_at h3, tabR_at h3, updR, if_neg (by omega)]
      · by_cases h4 : j = 256
        · subst h4; rw [tabR_last, tabR_last]
        · rw [List.getElem?_eq_none (by rw [tabR_len]; omega), List.getElem?_eq_none (by rw [tabR_len]; omega)]
theorem lputs_tabL : lputs (tabR f l) 256 [v] = tabR f v := by
  refine List.ext_getElem? fun j => ?_
  rw [lputs_get _ _ _ _ (by rw [tabR_len]; simp)]
  by_cases h1 : j < 256
  · rw [if_pos h1, tabR_at h1, tabR_at h1]
  · rw [if_neg h1]
    by_cases h4 : j = 256
    · subst h4; rw [if_pos (by simp), tabR_last]; simp
    · rw [if_neg (by simp; omega), List.getElem?_eq_none (by rw [tabR_len]; omega), List.getElem?_eq_none (by rw [tabR_len]; omega)]
theorem lputs_all : lputs (List.replicate 257 nilS) 0 (tabR f l) = tabR f l := by
  refine List.ext_getElem? fun j => ?_
  rw [lputs_get _ _ _ _ (by rw [tabR_len]; simp)]
  rw [if_neg (by omega)]
  by_cases h4 : j < 257
  · rw [if_pos (by rw [tabR_len]; omega), Nat.sub_zero]
  · rw [if_neg (by rw [tabR_len]; omega), List.getElem?_eq_none (by simp; omega), List.getElem?_eq_none (by rw [tabR_len]; omega)]
theorem tabR_one (h : ∀ c, oneCell (f c) = true) (hl : oneCell l = true) : (tabR f l).all oneCell = true := by
  simp [tabR, List.all_append, h, hl]
theorem tabR_nil : tabR (fun _ => nilS) nilS = List.replicate 257 nilS := by kernel_rfl
theorem lputs_rep : lputs (List.replicate 257 (.slice none 0 0)) 256 [v] = tabR (fun _ => nilS) v := by
  show lputs (List.replicate 257 nilS) 256 [v] = _
  rw [← tabR_nil, lputs_tabL]
theorem updR_at (c d : Nat) : updR f c v d = if d = c then v else f d := rfl
end

theorem pk_quo62 (K : Value → Prop) : popK (.bin .quo) [.int .i64 6, .int .i64 2] K = K (.int .i64 3) := of_eq_true (eq_self _)
theorem wk_mkS3 (s : St) (W : Value → St → Prop) : wopK (.mkSlice [.string .empty] 16) [.int .i64 0, .int .i64 3] s W = W (.slice (some ⟨s.next, 0, none⟩) 0 3) (s.new (.row [.string .empty, .string .empty, .string .empty] 0 false)) := of_eq_true (eq_self _)
theorem tabBox (s : St) (v : Value) (ho : oneCell v = true) : ∃ s4, (∀ W : Value → St → Prop, wopK (.store 257) [.pointer (some ⟨s.next, 0, none⟩), .agg (tabR (fun _ => nilS) v).toArray] (s.new (.row (List.replicate 257 nilS) 0 false)) W = W undef s4) ∧ s4.get s.next = some (.row (tabR (fun _ => nilS) v) 0 false) ∧ s4.next = s.next + 1 ∧ Frm s s4 := by
  refine ⟨(s.new (.row (List.replicate 257 nilS) 0 false)).put s.next (some (.row (tabR (fun _ => nilS) v) 0 false)), fun W => ?_, get_put_same _ _ _, rfl, (Frm.new s _).put _ (Nat.le_refl _) _⟩
  have := wk_storeK (W := W) (get_new_same s (.row (List.replicate 257 nilS) 0 false)) (o := 0) (k := 257) (xs := tabR (fun _ => nilS) v) (by rw [List.length_replicate]; decide) tabR_len (tabR_one (fun _ => rfl) ho)
  rw [this, lputs_all]
theorem szB1 (a : UInt8) : (ByteArray.mk #[a]).size = 1 := rfl
theorem szB2 (a b : UInt8) : (ByteArray.mk #[a, b]).size = 2 := rfl

theorem rk_toStr {st : St} {b o : Nat} {cs : List Value} {g : Nat} {ro : Bool} {n cap : Nat} {l : List UInt8} (hb : st.get b = some (.row cs g ro)) (hl : (cs.drop o).take n = l.map u8v) (hn : o + n ≤ cs.length) (K : Value → Prop) : ropK .bytesToStr [.slice (some ⟨b, o, none⟩) n cap] st K = K (.string ⟨l.toArray⟩) := by
  have h : st.cells ⟨b, o, none⟩ n = some (l.map u8v) := by
    simp only [St.cells, hb]
    rw [if_pos hn, hl]
  simp only [ropK, rop, h, Option.bind_some, u8s_map, Option.map_some]

attribute [local irreducible] callO wopK ropK popK opK grpsE listE sx Runs

/-- a slice of some cells, appended to the nil slice -/
theorem append_nilK {st : St} {sb n g cap : Nat} {ro : Bool} {cs : List Value} {esz bytes : Nat} (hs : st.get sb = some (.row cs g ro)) (hl : cs.length = n * esz) (hn : 0 < n) (he : 0 < esz) (ho : cs.all oneCell = true) (hb : n * bytes ≤ 1099511627776) (hn2 : n ≤ 1099511627776) {W : Value → St → Prop}
    (h : W (.slice (some ⟨st.next, 0, none⟩) n n) (st.new (.row cs esz false))) : wopK (.append esz bytes) [.slice none 0 0, .slice (some ⟨sb, 0, none⟩) n cap] st W := by
  have h1 : st.srcCells esz (.slice (some ⟨sb, 0, none⟩) n cap) = some cs := by
    simp only [St.srcCells, St.cells, hs, Nat.ne_of_gt hn, if_false]
    rw [if_pos (by show 0 + n * esz ≤ _; omega), List.drop_zero, List.take_of_length_le (by omega)]
  simp only [wopK, wop, appendV, srcLen, h1, Nat.ne_of_gt hn, Nat.ne_of_gt he, if_false, ho, not_true_eq_false, or_false]
  rw [if_pos ⟨hb, hn2⟩]
  exact h

/-- one cell more where there is room -/
theorem append_inK {st : St} {tr sb k cap g bytes : Nat} {ro : Bool} {cs : List Value} {x : Value} (ht : st.get tr = some (.row cs 0 false)) (hs : st.get sb = some (.row [x] g ro)) (hk : k + 1 ≤ cap) (hlen : k + 1 ≤ cs.length) (ho : oneCell x = true) (hb : (k + 1) * bytes ≤ 1099511627776 ∧ k + 1 ≤ 1099511627776) {W : Value → St → Prop}
    (h : W (.slice (some ⟨tr, 0, none⟩) (k + 1) cap) (st.put tr (some (.row (lputs cs k [x]) 0 false)))) : wopK (.append 1 bytes) [.slice (some ⟨tr, 0, none⟩) k cap, .slice (some ⟨sb, 0, none⟩) 1 1] st W := by
  have h1 : st.srcCells 1 (.slice (some ⟨sb, 0, none⟩) 1 1) = some [x] := by
    simp only [St.srcCells, St.cells, hs, Nat.one_ne_zero, if_false]
    rw [if_pos (by show 0 + 1 * 1 ≤ 1; omega)]
    rfl
  have h2 : st.cells ⟨tr, 0, none⟩ (k * 1) = some (cs.take k) := by
    simp only [St.cells, ht]
    rw [if_pos (by show 0 + k * 1 ≤ _; omega), List.drop_zero, Nat.mul_one]
  have h3 : st.storeAt (addA ⟨tr, 0, none⟩ (k * 1)) [x] = some (st.put tr (some (.row (lputs cs k [x]) 0 false))) := by
    have e : addA ⟨tr, 0, none⟩ (k * 1) = ⟨tr, k, none⟩ := by
      unfold addA
      split
      · rename_i h0; rw [show k = 0 by omega]
      · simp
    rw [e]
    simp only [St.storeAt, ht]
    rw [if_pos ⟨by simpa using hlen, by simp [ho]⟩]
  simp only [wopK, wop, appendV, srcLen, h1, h2, ht, Nat.one_ne_zero, if_false, List.all_cons, List.all_nil, ho, Bool.and_true, not_true_eq_false, or_false, if_true]
  rw [if_pos hb, if_pos hk, h3]
  exact h
theorem lputs_mid {a rest : List Value} {k : Nat} {x : Value} (ha : a.length = k) (hr : 0 < rest.length) : lputs (a ++ rest) k [x] = a ++ [x] ++ rest.tail := by
  cases rest with
  | nil => simp at hr
  | cons y r =>
    unfold lputs
    subst ha
    simp
theorem wk_tabL {st : St} {t : Nat} {f : Nat → Value} {l : Value} {a : Option Addr} {n c : Nat} (ht : st.get t = some (.row (tabR f l) 0 false)) {W : Value → St → Prop} (h : W undef (st.put t (some (.row (tabR f (.slice a n c)) 0 false)))) : wopK (.store 1) [.pointer (some ⟨t, 0 + 256, none⟩), .slice a n c] st W := by
  rw [wk_store, ht]
  simp only [getK, rowK, cells_slice, Nat.zero_add, lputs_tabL, tabR_len]
  exact ⟨rfl, ⟨by first | trivial | rfl, by decide, rfl⟩, h⟩
theorem wk_tabAt {st : St} {t d : Nat} (hc : d < 256) {f : Nat → Value} {l : Value} {a : Option Addr} {n c : Nat} (ht : st.get t = some (.row (tabR f l) 0 false)) {W : Value → St → Prop} (h : W undef (st.put t (some (.row (tabR (updR f d (.slice a n c)) l) 0 false)))) : wopK (.store 1) [.pointer (some ⟨t, d, none⟩), .slice a n c] st W := by
  rw [wk_store, ht]
  simp only [getK, rowK, cells_slice, lputs_tab hc, tabR_len]
  exact ⟨rfl, ⟨by first | trivial | rfl, by omega, rfl⟩, h⟩

section
variable {st : St} {K : Value → St → Prop}

def six : List Value := [.string ⟨#[42]⟩, .string ⟨#[42, 42]⟩, .string ⟨#[34]⟩, .string ⟨#[42, 34]⟩, .string ⟨#[10]⟩, .string ⟨#[42, 110]⟩]

/-- NewReplacer: a row that holds the pairs -/
theorem kNewRep (n : Nat) {b g : Nat} {ro : Bool} (hb : st.get b = some (.row six g ro)) (hlt : b < st.next)
    (h : ∀ st', Frm st st' → st'.next = st.next + 2 → st'.get (st.next + 1) = some (.row [.int .u32 0, .int .i32 0, .int .u32 0, .nilIface, .slice (some ⟨st.next, 0, none⟩) 6 6] 0 false) → st'.get st.next = some (.row six 1 false) → K (.pointer (some ⟨st.next + 1, 0, none⟩)) st') :
    callK (callO T0 orc fns 100000 (n + 1)) 84 [.slice (some ⟨b, 0, none⟩) 6 6] st K := by
  refine fn_runs (fn := g84) ?_ ?_ ?_
  · rfl
  · rfl
  unfold g84
  simp (disch := omega) only [↓sxA, ↓wk_store, sxB, sxP, Nat.reduceLeDiff, reduceCtorEq, Nat.reduceEqDiff, Nat.reduceAdd, Int.reduceLT, Int.reduceLE, Int.reduceEq, Nat.reduceLT, Int.reduceToNat, Int.reduceAdd, Int.reduceSub, ↓reduceIte]
  rw [if_neg (by decide)]
  refine append_nilK hb rfl (by decide) (by decide) rfl (by decide) (by decide) ?_
  simp (disch := omega) only [↓sxA, ↓wk_store, sxB, sxP, Nat.reduceLeDiff, reduceCtorEq, Nat.reduceEqDiff, Nat.reduceAdd, Int.reduceLT, Int.reduceLE, Int.reduceEq, Nat.reduceLT, Int.reduceToNat, Int.reduceAdd, Int.reduceSub, ↓reduceIte]
  exact h _ ((Frm.new st _).trans (Frm.new _ _)) rfl (get_new_same _ _) ((get_new_ne _ _ _ (by show st.next + 1 ≠ st.next; omega)).trans (get_new_same _ _))

/-- the keys and what stands for them, in the order in which they are laid -/
def keyR : List Nat := [10, 34, 42]
def valR : List (List UInt8) := [[42, 110], [42, 34], [42, 42]]
/-- behind k of them -/
structure TabS (s0 st : St) (tr t k : Nat) : Prop where
  frm : Frm s0 st
  trg : s0.next ≤ tr
  tt : tr < t
  tn : t < st.next
  row : ∃ f, st.get t = some (.row (tabR f (.slice (some ⟨tr, 0, none⟩) k 3)) 0 false) ∧ (∀ j, j < k → ∃ a g, f (keyR.getD j 0) = .slice (some ⟨a, 0, none⟩) 2 2 ∧ t < a ∧ a < st.next ∧ st.get a = some (.row ((valR.getD j []).map u8v) g false)) ∧ (∀ c, (∀ j, j < k → c ≠ keyR.getD j 0) → f c = nilS)
  strs : ∃ rest, st.get tr = some (.row (((keyR.take k).map fun c => Value.string ⟨#[UInt8.ofNat c]⟩) ++ rest) 0 false) ∧ rest.length = 3 - k

theorem kBuild (n : Nat) {p b : Nat} {x y z u : Value} {g g' : Nat} {ro ro' : Bool} (hp : st.get p = some (.row [x, y, z, u, .slice (some ⟨b, 0, none⟩) 6 6] g ro)) (hb : st.get b = some (.row six g' ro')) (hpl : p < st.next) (hbl : b < st.next)
    (h : ∀ st' tr t, TabS st st' tr t 3 → K (.iface 211 (.pointer (some ⟨t, 0, none⟩))) st') : callK (callO T0 orc fns 100000 (n + 1)) 142 [.pointer (some ⟨p, 0, none⟩)] st K := by
  refine fn_runs (fn := g142) ?_ ?_ ?_
  · rfl
  · rfl
  unfold g142
  simp (disch := omega) only [↓sxA, ↓wk_store, sxB, sxP, Nat.reduceLeDiff, reduceCtorEq, Nat.reduceEqDiff, Nat.reduceAdd, Int.reduceLT, Int.reduceLE, Int.reduceEq, Nat.reduceLT, Int.reduceToNat, Int.reduceAdd, Int.reduceSub, ↓reduceIte, hp]
  refine loop_rule [0, 2, 3, 4, 5] (fun vs st' => st' = st ∧ (vs = [.pointer (some ⟨p, 0, none⟩), .nilIface, .slice (some ⟨b, 0, none⟩) 6 6, .bool true, .int .i64 0] ∨ vs = [.pointer (some ⟨p, 0, none⟩), .nilIface, .slice (some ⟨b, 0, none⟩) 6 6, .bool false, .int .i64 2] ∨ vs = [.pointer (some ⟨p, 0, none⟩), .nilIface, .slice (some ⟨b, 0, none⟩) 6 6, .bool false, .int .i64 4] ∨ vs = [.pointer (some ⟨p, 0, none⟩), .nilIface, .slice (some ⟨b, 0, none⟩) 6 6, .bool false, .int .i64 6])) (fun vs _ => match lget vs 4 with
      | .int _ k => (6 - k).toNat
      | _ => 0) ?_ ?_ ?_
  · rfl
  · refine ⟨_, rfl, ⟨rfl, .inl rfl⟩, ?_⟩
    show ((6 : Int) - 0).toNat < 100000
    decide
  · rintro vs st' ⟨rfl, hj⟩
    rcases hj with rfl | rfl | rfl | rfl
    · show sx _ _ _ _ _ [(0, _), (2, _), (3, _), (4, _), (5, _)] _ _ _ _
      simp (disch := omega) only [↓sxA, ↓wk_store, sxB, sxP, Nat.reduceLeDiff, reduceCtorEq, Nat.reduceEqDiff, Nat.reduceAdd, Int.reduceLT, Int.reduceLE, Int.reduceEq, Nat.reduceLT, Int.reduceToNat, Int.reduceAdd, Int.reduceSub, ↓reduceIte, hb, six, nthK_tab, nthK_tabL, tabR_len, updR_at, Nat.reduceMul, Int.reduceToNat, List.length_replicate, szB1, szB2, Int.cast_ofNat_Int, pk_quo62]
      refine ⟨_, rfl, .inr (.inl rfl), ?_⟩
      show ((6 : Int) - 2).toNat < ((6 : Int) - 0).toNat
      decide
    · show sx _ _ _ _ _ [(0, _), (2, _), (3, _), (4, _), (5, _)] _ _ _ _
      simp (disch := omega) only [↓sxA, ↓wk_store, sxB, sxP, Nat.reduceLeDiff, reduceCtorEq, Nat.reduceEqDiff, Nat.reduceAdd, Int.reduceLT, Int.reduceLE, Int.reduceEq, Nat.reduceLT, Int.reduceToNat, Int.reduceAdd, Int.reduceSub, ↓reduceIte, hb, six, nthK_tab, nthK_tabL, tabR_len, updR_at, Nat.reduceMul, Int.reduceToNat, List.length_replicate, szB1, szB2, Int.cast_ofNat_Int, pk_quo62]
      refine ⟨_, rfl, .inr (.inr (.inl rfl)), ?_⟩
      show ((6 : Int) - 4).toNat < ((6 : Int) - 2).toNat
      decide
    · show sx _ _ _ _ _ [(0, _), (2, _), (3, _), (4, _), (5, _)] _ _ _ _
      simp (disch := omega) only [↓sxA, ↓wk_store, sxB, sxP, Nat.reduceLeDiff, reduceCtorEq, Nat.reduceEqDiff, Nat.reduceAdd, Int.reduceLT, Int.reduceLE, Int.reduceEq, Nat.reduceLT, Int.reduceToNat, Int.reduceAdd, Int.reduceSub, ↓reduceIte, hb, six, nthK_tab, nthK_tabL, tabR_len, updR_at, Nat.reduceMul, Int.reduceToNat, List.length_replicate, szB1, szB2, Int.cast_ofNat_Int, pk_quo62]
      refine ⟨_, rfl, .inr (.inr (.inr rfl)), ?_⟩
      show ((6 : Int) - 6).toNat < ((6 : Int) - 4).toNat
      decide
    · show sx _ _ _ _ _ [(0, _), (2, _), (3, _), (4, _), (5, _)] _ _ _ _
      simp (disch := omega) only [↓sxA, ↓wk_store, sxB, sxP, Nat.reduceLeDiff, reduceCtorEq, Nat.reduceEqDiff, Nat.reduceAdd, Int.reduceLT, Int.reduceLE, Int.reduceEq, Nat.reduceLT, Int.reduceToNat, Int.reduceAdd, Int.reduceSub, ↓reduceIte, hb, six, nthK_tab, nthK_tabL, tabR_len, updR_at, Nat.reduceMul, Int.reduceToNat, List.length_replicate, szB1, szB2, Int.cast_ofNat_Int, pk_quo62]
      rw [wk_mkS3]
      have F3 := Frm.new st' (.row [.string .empty, .string .empty, .string .empty] 0 false)
      have g3 := get_new_same st' (.row [.string .empty, .string .empty, .string .empty] 0 false)
      have n3 : (st'.new (.row [.string .empty, .string .empty, .string .empty] 0 false)).next = st'.next + 1 := rfl
      generalize st'.new (.row [.string .empty, .string .empty, .string .empty] 0 false) = s3 at F3 g3 n3 ⊢
      obtain ⟨s4, w4, g4, n4, F4⟩ := tabBox s3 (.slice (some ⟨st'.next, 0, none⟩) 0 3) rfl
      simp (disch := omega) only [↓sxA, sxB, sxP, Nat.reduceLeDiff, reduceCtorEq, Nat.reduceEqDiff, Nat.reduceAdd, Int.reduceLT, Int.reduceLE, Int.reduceEq, Nat.reduceLT, Int.reduceToNat, Int.reduceAdd, Int.reduceSub, ↓reduceIte, ↓w4, lputs_rep, tabR_len]
      refine ⟨by rw [List.length_replicate]; decide, ?_⟩
      refine loop_rule [3, 11, 12] (fun vs s => ∃ k : Nat, k ≤ 3 ∧ vs = [.slice (some ⟨b, 0, none⟩) 6 6, .pointer (some ⟨s3.next, 0, none⟩), .int .i64 (4 - 2 * (k : Int))] ∧ TabS st' s st'.next s3.next k) (fun vs _ => match lget vs 2 with
      | .int _ k => (k + 2).toNat
      | _ => 0) ?_ ?_ ?_
      · rfl
      · refine ⟨_, rfl, ⟨0, by decide, rfl, ⟨F3.trans F4, Nat.le_refl _, by omega, by omega, ⟨_, g4, fun j hj => by omega, fun _ _ => rfl⟩, ⟨_, (F4.old _ (by omega)).trans g3, rfl⟩⟩⟩, ?_⟩
        show ((4 : Int) + 2).toNat < 100000
        decide
      · rintro vs s5 ⟨k, hk, rfl, hT⟩
        obtain ⟨f, hrow, hfk, hfn⟩ := hT.row
        obtain ⟨rest, hstr, hrest⟩ := hT.strs
        have hb5 := (hT.frm.old b hbl).trans hb
        have hk' : k = 0 ∨ k = 1 ∨ k = 2 ∨ k = 3 := by omega
        rcases hk' with rfl | rfl | rfl | rfl
        · have hf : f 10 = .slice none 0 0 := by
            refine hfn 10 fun j hj => ?_
            have : j = 0 ∨ j = 1 ∨ j = 2 := by omega
            rcases this with rfl | rfl | rfl
            all_goals first | omega | decide
          have tt := hT.tt
          have tn := hT.tn
          show sx _ _ _ _ _ [(3, _), (11, _), (12, .int .i64 4)] _ _ _ _
          simp (disch := omega) only [↓sxA, sxB, sxP, Nat.reduceLeDiff, reduceCtorEq, Nat.reduceEqDiff, Nat.reduceAdd, Int.reduceLT, Int.reduceLE, Int.reduceEq, Nat.reduceLT, Int.reduceToNat, Int.reduceAdd, Int.reduceSub, ↓reduceIte, hb5, hrow, hf, six, nthK_tab, nthK_tabL, tabR_len, updR_at, Nat.reduceMul, Int.reduceToNat, szB1, szB2, Int.cast_ofNat_Int, ↓ixB10, ↓ixB34, ↓ixB42]
          have F6 := Frm.new s5 (.row [.int .u8 10] 0 false)
          have g6 := get_new_same s5 (.row [.int .u8 10] 0 false)
          have n6 : (s5.new (.row [.int .u8 10] 0 false)).next = s5.next + 1 := rfl
          generalize s5.new (.row [.int .u8 10] 0 false) = s6 at F6 g6 n6 ⊢
          rw [rk_toStr (l := [10]) g6 rfl (by decide)]
          simp (disch := omega) only [↓sxA, sxB, sxP, Nat.reduceLeDiff, reduceCtorEq, Nat.reduceEqDiff, Nat.reduceAdd, Int.reduceLT, Int.reduceLE, Int.reduceEq, Nat.reduceLT, Int.reduceToNat, Int.reduceAdd, Int.reduceSub, ↓reduceIte, nthK_tab, nthK_tabL, tabR_len, updR_at, Nat.reduceMul, Int.reduceToNat, szB1, szB2, Int.cast_ofNat_Int, ↓ixB10, ↓ixB34, ↓ixB42]
          have F7 := Frm.new s6 (.row [.string ⟨#[10]⟩] 0 false)
          have g7 := get_new_same s6 (.row [.string ⟨#[10]⟩] 0 false)
          have n7 : (s6.new (.row [.string ⟨#[10]⟩] 0 false)).next = s6.next + 1 := rfl
          generalize s6.new (.row [.string ⟨#[10]⟩] 0 false) = s7 at F7 g7 n7 ⊢
          have htr7 := (F7.old st'.next (by omega)).trans ((F6.old st'.next (by omega)).trans hstr)
          have ht7 := (F7.old s3.next (by omega)).trans ((F6.old s3.next (by omega)).trans hrow)
          refine append_inK htr7 g7 (by decide) (by rw [List.length_append, hrest]; decide) rfl (by decide) ?_
          rw [lputs_mid (a := (keyR.take 0).map fun c => Value.string ⟨#[UInt8.ofNat c]⟩) (k := 0) rfl (by omega)]
          have g8 := get_put_same s7 st'.next (some (.row (((keyR.take 0).map fun c => Value.string ⟨#[UInt8.ofNat c]⟩) ++ [.string ⟨#[10]⟩] ++ rest.tail) 0 false))
          have o8 : ∀ i, st'.next ≠ i → (s7.put st'.next (some (.row (((keyR.take 0).map fun c => Value.string ⟨#[UInt8.ofNat c]⟩) ++ [.string ⟨#[10]⟩] ++ rest.tail) 0 false))).get i = s7.get i := fun i hi => get_put_ne _ _ _ _ hi
          have n8 : (s7.put st'.next (some (.row (((keyR.take 0).map fun c => Value.string ⟨#[UInt8.ofNat c]⟩) ++ [.string ⟨#[10]⟩] ++ rest.tail) 0 false))).next = s7.next := rfl
          generalize s7.put st'.next (some (.row (((keyR.take 0).map fun c => Value.string ⟨#[UInt8.ofNat c]⟩) ++ [.string ⟨#[10]⟩] ++ rest.tail) 0 false)) = s8 at g8 o8 n8 ⊢
          have ht8 := (o8 s3.next (by omega)).trans ht7
          simp (disch := omega) only [↓sxA, sxB, sxP, Nat.reduceLeDiff, reduceCtorEq, Nat.reduceEqDiff, Nat.reduceAdd, Int.reduceLT, Int.reduceLE, Int.reduceEq, Nat.reduceLT, Int.reduceToNat, Int.reduceAdd, Int.reduceSub, ↓reduceIte, nthK_tab, nthK_tabL, tabR_len, updR_at, Nat.reduceMul, Int.reduceToNat, szB1, szB2, Int.cast_ofNat_Int, ↓ixB10, ↓ixB34, ↓ixB42]
          refine wk_tabL ht8 ?_
          have g9 := get_put_same s8 s3.next (some (.row (tabR f (.slice (some ⟨st'.next, 0, none⟩) (0 + 1) 3)) 0 false))
          have o9 : ∀ i, s3.next ≠ i → (s8.put s3.next (some (.row (tabR f (.slice (some ⟨st'.next, 0, none⟩) (0 + 1) 3)) 0 false))).get i = s8.get i := fun i hi => get_put_ne _ _ _ _ hi
          have n9 : (s8.put s3.next (some (.row (tabR f (.slice (some ⟨st'.next, 0, none⟩) (0 + 1) 3)) 0 false))).next = s8.next := rfl
          generalize s8.put s3.next (some (.row (tabR f (.slice (some ⟨st'.next, 0, none⟩) (0 + 1) 3)) 0 false)) = s9 at g9 o9 n9 ⊢
          simp (disch := omega) only [↓sxA, sxB, sxP, Nat.reduceLeDiff, reduceCtorEq, Nat.reduceEqDiff, Nat.reduceAdd, Int.reduceLT, Int.reduceLE, Int.reduceEq, Nat.reduceLT, Int.reduceToNat, Int.reduceAdd, Int.reduceSub, ↓reduceIte, nthK_tab, nthK_tabL, tabR_len, updR_at, Nat.reduceMul, Int.reduceToNat, szB1, szB2, Int.cast_ofNat_Int, ↓ixB10, ↓ixB34, ↓ixB42]
          have F10 := Frm.new s9 (.row (List.map (fun c : UInt8 => Value.int .u8 c.toNat) [42, 110]) 1 false)
          have g10 := get_new_same s9 (.row (List.map (fun c : UInt8 => Value.int .u8 c.toNat) [42, 110]) 1 false)
          have n10 : (s9.new (.row (List.map (fun c : UInt8 => Value.int .u8 c.toNat) [42, 110]) 1 false)).next = s9.next + 1 := rfl
          generalize s9.new (.row (List.map (fun c : UInt8 => Value.int .u8 c.toNat) [42, 110]) 1 false) = s10 at F10 g10 n10 ⊢
          have ht10 := (F10.old s3.next (by omega)).trans g9
          refine wk_tabAt (d := 10) (by decide) ht10 ?_
          have g11 := get_put_same s10 s3.next (some (.row (tabR (updR f 10 (.slice (some ⟨s9.next, 0, none⟩) 2 2)) (.slice (some ⟨st'.next, 0, none⟩) (0 + 1) 3)) 0 false))
          have o11 : ∀ i, s3.next ≠ i → (s10.put s3.next (some (.row (tabR (updR f 10 (.slice (some ⟨s9.next, 0, none⟩) 2 2)) (.slice (some ⟨st'.next, 0, none⟩) (0 + 1) 3)) 0 false))).get i = s10.get i := fun i hi => get_put_ne _ _ _ _ hi
          have n11 : (s10.put s3.next (some (.row (tabR (updR f 10 (.slice (some ⟨s9.next, 0, none⟩) 2 2)) (.slice (some ⟨st'.next, 0, none⟩) (0 + 1) 3)) 0 false))).next = s10.next := rfl
          generalize s10.put s3.next (some (.row (tabR (updR f 10 (.slice (some ⟨s9.next, 0, none⟩) 2 2)) (.slice (some ⟨st'.next, 0, none⟩) (0 + 1) 3)) 0 false)) = s11 at g11 o11 n11 ⊢
          simp (disch := omega) only [↓sxA, sxB, sxP, Nat.reduceLeDiff, reduceCtorEq, Nat.reduceEqDiff, Nat.reduceAdd, Int.reduceLT, Int.reduceLE, Int.reduceEq, Nat.reduceLT, Int.reduceToNat, Int.reduceAdd, Int.reduceSub, ↓reduceIte, nthK_tab, nthK_tabL, tabR_len, updR_at, Nat.reduceMul, Int.reduceToNat, szB1, szB2, Int.cast_ofNat_Int, ↓ixB10, ↓ixB34, ↓ixB42]
          have nx := hT.frm.nx
          have keep : ∀ i, i < s5.next → i ≠ st'.next → i ≠ s3.next → s11.get i = s5.get i := fun i h1 h2 h3 => by
            rw [o11 i (by omega), F10.old i (by omega), o9 i (by omega), o8 i (by omega), F7.old i (by omega), F6.old i (by omega)]
          refine ⟨_, rfl, ⟨1, by decide, rfl, ⟨⟨by omega, fun i hi => (keep i (by omega) (by omega) (by omega)).trans (hT.frm.old i hi)⟩, Nat.le_refl _, by omega, by omega, ⟨_, g11, fun j hj => ?_, fun d hd => ?_⟩, ⟨rest.tail, ?_, by rw [List.length_tail, hrest]⟩⟩⟩, ?_⟩
          · by_cases hj' : j = 0
            · subst hj'
              exact ⟨s9.next, 1, rfl, by omega, by omega, (o11 _ (by omega)).trans g10⟩
            · obtain ⟨a, ga, h1, h2, h3, h4⟩ := hfk j (by omega)
              refine ⟨a, ga, ?_, h2, by omega, (keep a h3 (by omega) (by omega)).trans h4⟩
              rw [updR, if_neg ?_]
              · exact h1
              · have : j = 0 ∨ j = 1 ∨ j = 2 := by omega
                rcases this with rfl | rfl | rfl
                all_goals first | omega | decide
          · rw [updR, if_neg (show ¬ d = 10 from hd 0 (by decide))]
            exact hfn d fun j hj => hd j (by omega)
          · rw [o11 _ (by omega), F10.old _ (by omega), o9 _ (by omega)]
            exact g8
          · show ((2 : Int) + 2).toNat < ((4 : Int) + 2).toNat
            decide
        · have hf : f 34 = .slice none 0 0 := by
            refine hfn 34 fun j hj => ?_
            have : j = 0 ∨ j = 1 ∨ j = 2 := by omega
            rcases this with rfl | rfl | rfl
            all_goals first | omega | decide
          have tt := hT.tt
          have tn := hT.tn
          show sx _ _ _ _ _ [(3, _), (11, _), (12, .int .i64 2)] _ _ _ _
          simp (disch := omega) only [↓sxA, sxB, sxP, Nat.reduceLeDiff, reduceCtorEq, Nat.reduceEqDiff, Nat.reduceAdd, Int.reduceLT, Int.reduceLE, Int.reduceEq, Nat.reduceLT, Int.reduceToNat, Int.reduceAdd, Int.reduceSub, ↓reduceIte, hb5, hrow, hf, six, nthK_tab, nthK_tabL, tabR_len, updR_at, Nat.reduceMul, Int.reduceToNat, szB1, szB2, Int.cast_ofNat_Int, ↓ixB10, ↓ixB34, ↓ixB42]
          have F6 := Frm.new s5 (.row [.int .u8 34] 0 false)
          have g6 := get_new_same s5 (.row [.int .u8 34] 0 false)
          have n6 : (s5.new (.row [.int .u8 34] 0 false)).next = s5.next + 1 := rfl
          generalize s5.new (.row [.int .u8 34] 0 false) = s6 at F6 g6 n6 ⊢
          rw [rk_toStr (l := [34]) g6 rfl (by decide)]
          simp (disch := omega) only [↓sxA, sxB, sxP, Nat.reduceLeDiff, reduceCtorEq, Nat.reduceEqDiff, Nat.reduceAdd, Int.reduceLT, Int.reduceLE, Int.reduceEq, Nat.reduceLT, Int.reduceToNat, Int.reduceAdd, Int.reduceSub, ↓reduceIte, nthK_tab, nthK_tabL, tabR_len, updR_at, Nat.reduceMul, Int.reduceToNat, szB1, szB2, Int.cast_ofNat_Int, ↓ixB10, ↓ixB34, ↓ixB42]
          have F7 := Frm.new s6 (.row [.string ⟨#[34]⟩] 0 false)
          have g7 := get_new_same s6 (.row [.string ⟨#[34]⟩] 0 false)
          have n7 : (s6.new (.row [.string ⟨#[34]⟩] 0 false)).next = s6.next + 1 := rfl
          generalize s6.new (.row [.string ⟨#[34]⟩] 0 false) = s7 at F7 g7 n7 ⊢
          have htr7 := (F7.old st'.next (by omega)).trans ((F6.old st'.next (by omega)).trans hstr)
          have ht7 := (F7.old s3.next (by omega)).trans ((F6.old s3.next (by omega)).trans hrow)
          refine append_inK htr7 g7 (by decide) (by rw [List.length_append, hrest]; decide) rfl (by decide) ?_
          rw [lputs_mid (a := (keyR.take 1).map fun c => Value.string ⟨#[UInt8.ofNat c]⟩) (k := 1) rfl (by omega)]
          have g8 := get_put_same s7 st'.next (some (.row (((keyR.take 1).map fun c => Value.string ⟨#[UInt8.ofNat c]⟩) ++ [.string ⟨#[34]⟩] ++ rest.tail) 0 false))
          have o8 : ∀ i, st'.next ≠ i → (s7.put st'.next (some (.row (((keyR.take 1).map fun c => Value.string ⟨#[UInt8.ofNat c]⟩) ++ [.string ⟨#[34]⟩] ++ rest.tail) 0 false))).get i = s7.get i := fun i hi => get_put_ne _ _ _ _ hi
          have n8 : (s7.put st'.next (some (.row (((keyR.take 1).map fun c => Value.string ⟨#[UInt8.ofNat c]⟩) ++ [.string ⟨#[34]⟩] ++ rest.tail) 0 false))).next = s7.next := rfl
          generalize s7.put st'.next (some (.row (((keyR.take 1).map fun c => Value.string ⟨#[UInt8.ofNat c]⟩) ++ [.string ⟨#[34]⟩] ++ rest.tail) 0 false)) = s8 at g8 o8 n8 ⊢
          have ht8 := (o8 s3.next (by omega)).trans ht7
          simp (disch := omega) only [↓sxA, sxB, sxP, Nat.reduceLeDiff, reduceCtorEq, Nat.reduceEqDiff, Nat.reduceAdd, Int.reduceLT, Int.reduceLE, Int.reduceEq, Nat.reduceLT, Int.reduceToNat, Int.reduceAdd, Int.reduceSub, ↓reduceIte, nthK_tab, nthK_tabL, tabR_len, updR_at, Nat.reduceMul, Int.reduceToNat, szB1, szB2, Int.cast_ofNat_Int, ↓ixB10, ↓ixB34, ↓ixB42]
          refine wk_tabL ht8 ?_
          have g9 := get_put_same s8 s3.next (some (.row (tabR f (.slice (some ⟨st'.next, 0, none⟩) (1 + 1) 3)) 0 false))
          have o9 : ∀ i, s3.next ≠ i → (s8.put s3.next (some (.row (tabR f (.slice (some ⟨st'.next, 0, none⟩) (1 + 1) 3)) 0 false))).get i = s8.get i := fun i hi => get_put_ne _ _ _ _ hi
          have n9 : (s8.put s3.next (some (.row (tabR f (.slice (some ⟨st'.next, 0, none⟩) (1 + 1) 3)) 0 false))).next = s8.next := rfl
          generalize s8.put s3.next (some (.row (tabR f (.slice (some ⟨st'.next, 0, none⟩) (1 + 1) 3)) 0 false)) = s9 at g9 o9 n9 ⊢
          simp (disch := omega) only [↓sxA, sxB, sxP, Nat.reduceLeDiff, reduceCtorEq, Nat.reduceEqDiff, Nat.reduceAdd, Int.reduceLT, Int.reduceLE, Int.reduceEq, Nat.reduceLT, Int.reduceToNat, Int.reduceAdd, Int.reduceSub, ↓reduceIte, nthK_tab, nthK_tabL, tabR_len, updR_at, Nat.reduceMul, Int.reduceToNat, szB1, szB2, Int.cast_ofNat_Int, ↓ixB10, ↓ixB34, ↓ixB42]
          have F10 := Frm.new s9 (.row (List.map (fun c : UInt8 => Value.int .u8 c.toNat) [42, 34]) 1 false)
          have g10 := get_new_same s9 (.row (List.map (fun c : UInt8 => Value.int .u8 c.toNat) [42, 34]) 1 false)
          have n10 : (s9.new (.row (List.map (fun c : UInt8 => Value.int .u8 c.toNat) [42, 34]) 1 false)).next = s9.next + 1 := rfl
          generalize s9.new (.row (List.map (fun c : UInt8 => Value.int .u8 c.toNat) [42, 34]) 1 false) = s10 at F10 g10 n10 ⊢
          have ht10 := (F10.old s3.next (by omega)).trans g9
          refine wk_tabAt (d := 34) (by decide) ht10 ?_
          have g11 := get_put_same s10 s3.next (some (.row (tabR (updR f 34 (.slice (some ⟨s9.next, 0, none⟩) 2 2)) (.slice (some ⟨st'.next, 0, none⟩) (1 + 1) 3)) 0 false))
          have o11 : ∀ i, s3.next ≠ i → (s10.put s3.next (some (.row (tabR (updR f 34 (.slice (some ⟨s9.next, 0, none⟩) 2 2)) (.slice (some ⟨st'.next, 0, none⟩) (1 + 1) 3)) 0 false))).get i = s10.get i := fun i hi => get_put_ne _ _ _ _ hi
          have n11 : (s10.put s3.next (some (.row (tabR (updR f 34 (.slice (some ⟨s9.next, 0, none⟩) 2 2)) (.slice (some ⟨st'.next, 0, none⟩) (1 + 1) 3)) 0 false))).next = s10.next := rfl
          generalize s10.put s3.next (some (.row (tabR (updR f 34 (.slice (some ⟨s9.next, 0, none⟩) 2 2)) (.slice (some ⟨st'.next, 0, none⟩) (1 + 1) 3)) 0 false)) = s11 at g11 o11 n11 ⊢
          simp (disch := omega) only [↓sxA, sxB, sxP, Nat.reduceLeDiff, reduceCtorEq, Nat.reduceEqDiff, Nat.reduceAdd, Int.reduceLT, Int.reduceLE, Int.reduceEq, Nat.reduceLT, Int.reduceToNat, Int.reduceAdd, Int.reduceSub, ↓reduceIte, nthK_tab, nthK_tabL, tabR_len, updR_at, Nat.reduceMul, Int.reduceToNat, szB1, szB2, Int.cast_ofNat_Int, ↓ixB10, ↓ixB34, ↓ixB42]
          have nx := hT.frm.nx
          have keep : ∀ i, i < s5.next → i ≠ st'.next → i ≠ s3.next → s11.get i = s5.get i := fun i h1 h2 h3 => by
            rw [o11 i (by omega), F10.old i (by omega), o9 i (by omega), o8 i (by omega), F7.old i (by omega), F6.old i (by omega)]
          refine ⟨_, rfl, ⟨2, by decide, rfl, ⟨⟨by omega, fun i hi => (keep i (by omega) (by omega) (by omega)).trans (hT.frm.old i hi)⟩, Nat.le_refl _, by omega, by omega, ⟨_, g11, fun j hj => ?_, fun d hd => ?_⟩, ⟨rest.tail, ?_, by rw [List.length_tail, hrest]⟩⟩⟩, ?_⟩
          · by_cases hj' : j = 1
            · subst hj'
              exact ⟨s9.next, 1, rfl, by omega, by omega, (o11 _ (by omega)).trans g10⟩
            · obtain ⟨a, ga, h1, h2, h3, h4⟩ := hfk j (by omega)
              refine ⟨a, ga, ?_, h2, by omega, (keep a h3 (by omega) (by omega)).trans h4⟩
              rw [updR, if_neg ?_]
              · exact h1
              · have : j = 0 ∨ j = 1 ∨ j = 2 := by omega
                rcases this with rfl | rfl | rfl
                all_goals first | omega | decide
          · rw [updR, if_neg (show ¬ d = 34 from hd 1 (by decide))]
            exact hfn d fun j hj => hd j (by omega)
          · rw [o11 _ (by omega), F10.old _ (by omega), o9 _ (by omega)]
            exact g8
          · show ((0 : Int) + 2).toNat < ((2 : Int) + 2).toNat
            decide
        · have hf : f 42 = .slice none 0 0 := by
            refine hfn 42 fun j hj => ?_
            have : j = 0 ∨ j = 1 ∨ j = 2 := by omega
            rcases this with rfl | rfl | rfl
            all_goals first | omega | decide
          have tt := hT.tt
          have tn := hT.tn
          show sx _ _ _ _ _ [(3, _), (11, _), (12, .int .i64 0)] _ _ _ _
          simp (disch := omega) only [↓sxA, sxB, sxP, Nat.reduceLeDiff, reduceCtorEq, Nat.reduceEqDiff, Nat.reduceAdd, Int.reduceLT, Int.reduceLE, Int.reduceEq, Nat.reduceLT, Int.reduceToNat, Int.reduceAdd, Int.reduceSub, ↓reduceIte, hb5, hrow, hf, six, nthK_tab, nthK_tabL, tabR_len, updR_at, Nat.reduceMul, Int.reduceToNat, szB1, szB2, Int.cast_ofNat_Int, ↓ixB10, ↓ixB34, ↓ixB42]
          have F6 := Frm.new s5 (.row [.int .u8 42] 0 false)
          have g6 := get_new_same s5 (.row [.int .u8 42] 0 false)
          have n6 : (s5.new (.row [.int .u8 42] 0 false)).next = s5.next + 1 := rfl
          generalize s5.new (.row [.int .u8 42] 0 false) = s6 at F6 g6 n6 ⊢
          rw [rk_toStr (l := [42]) g6 rfl (by decide)]
          simp (disch := omega) only [↓sxA, sxB, sxP, Nat.reduceLeDiff, reduceCtorEq, Nat.reduceEqDiff, Nat.reduceAdd, Int.reduceLT, Int.reduceLE, Int.reduceEq, Nat.reduceLT, Int.reduceToNat, Int.reduceAdd, Int.reduceSub, ↓reduceIte, nthK_tab, nthK_tabL, tabR_len, updR_at, Nat.reduceMul, Int.reduceToNat, szB1, szB2, Int.cast_ofNat_Int, ↓ixB10, ↓ixB34, ↓ixB42]
          have F7 := Frm.new s6 (.row [.string ⟨#[42]⟩] 0 false)
          have g7 := get_new_same s6 (.row [.string ⟨#[42]⟩] 0 false)
          have n7 : (s6.new (.row [.string ⟨#[42]⟩] 0 false)).next = s6.next + 1 := rfl
          generalize s6.new (.row [.string ⟨#[42]⟩] 0 false) = s7 at F7 g7 n7 ⊢
          have htr7 := (F7.old st'.next (by omega)).trans ((F6.old st'.next (by omega)).trans hstr)
          have ht7 := (F7.old s3.next (by omega)).trans ((F6.old s3.next (by omega)).trans hrow)
          refine append_inK htr7 g7 (by decide) (by rw [List.length_append, hrest]; decide) rfl (by decide) ?_
          rw [lputs_mid (a := (keyR.take 2).map fun c => Value.string ⟨#[UInt8.ofNat c]⟩) (k := 2) rfl (by omega)]
          have g8 := get_put_same s7 st'.next (some (.row (((keyR.take 2).map fun c => Value.string ⟨#[UInt8.ofNat c]⟩) ++ [.string ⟨#[42]⟩] ++ rest.tail) 0 false))
          have o8 : ∀ i, st'.next ≠ i → (s7.put st'.next (some (.row (((keyR.take 2).map fun c => Value.string ⟨#[UInt8.ofNat c]⟩) ++ [.string ⟨#[42]⟩] ++ rest.tail) 0 false))).get i = s7.get i := fun i hi => get_put_ne _ _ _ _ hi
          have n8 : (s7.put st'.next (some (.row (((keyR.take 2).map fun c => Value.string ⟨#[UInt8.ofNat c]⟩) ++ [.string ⟨#[42]⟩] ++ rest.tail) 0 false))).next = s7.next := rfl
          generalize s7.put st'.next (some (.row (((keyR.take 2).map fun c => Value.string ⟨#[UInt8.ofNat c]⟩) ++ [.string ⟨#[42]⟩] ++ rest.tail) 0 false)) = s8 at g8 o8 n8 ⊢
          have ht8 := (o8 s3.next (by omega)).trans ht7
          simp (disch := omega) only [↓sxA, sxB, sxP, Nat.reduceLeDiff, reduceCtorEq, Nat.reduceEqDiff, Nat.reduceAdd, Int.reduceLT, Int.reduceLE, Int.reduceEq, Nat.reduceLT, Int.reduceToNat, Int.reduceAdd, Int.reduceSub, ↓reduceIte, nthK_tab, nthK_tabL, tabR_len, updR_at, Nat.reduceMul, Int.reduceToNat, szB1, szB2, Int.cast_ofNat_Int, ↓ixB10, ↓ixB34, ↓ixB42]
          refine wk_tabL ht8 ?_
          have g9 := get_put_same s8 s3.next (some (.row (tabR f (.slice (some ⟨st'.next, 0, none⟩) (2 + 1) 3)) 0 false))
          have o9 : ∀ i, s3.next ≠ i → (s8.put s3.next (some (.row (tabR f (.slice (some ⟨st'.next, 0, none⟩) (2 + 1) 3)) 0 false))).get i = s8.get i := fun i hi => get_put_ne _ _ _ _ hi
          have n9 : (s8.put s3.next (some (.row (tabR f (.slice (some ⟨st'.next, 0, none⟩) (2 + 1) 3)) 0 false))).next = s8.next := rfl
          generalize s8.put s3.next (some (.row (tabR f (.slice (some ⟨st'.next, 0, none⟩) (2 + 1) 3)) 0 false)) = s9 at g9 o9 n9 ⊢
          simp (disch := omega) only [↓sxA, sxB, sxP, Nat.reduceLeDiff, reduceCtorEq, Nat.reduceEqDiff, Nat.reduceAdd, Int.reduceLT, Int.reduceLE, Int.reduceEq, Nat.reduceLT, Int.reduceToNat, Int.reduceAdd, Int.reduceSub, ↓reduceIte, nthK_tab, nthK_tabL, tabR_len, updR_at, Nat.reduceMul, Int.reduceToNat, szB1, szB2, Int.cast_ofNat_Int, ↓ixB10, ↓ixB34, ↓ixB42]
          have F10 := Frm.new s9 (.row (List.map (fun c : UInt8 => Value.int .u8 c.toNat) [42, 42]) 1 false)
          have g10 := get_new_same s9 (.row (List.map (fun c : UInt8 => Value.int .u8 c.toNat) [42, 42]) 1 false)
          have n10 : (s9.new (.row (List.map (fun c : UInt8 => Value.int .u8 c.toNat) [42, 42]) 1 false)).next = s9.next + 1 := rfl
          generalize s9.new (.row (List.map (fun c : UInt8 => Value.int .u8 c.toNat) [42, 42]) 1 false) = s10 at F10 g10 n10 ⊢
          have ht10 := (F10.old s3.next (by omega)).trans g9
          refine wk_tabAt (d := 42) (by decide) ht10 ?_
          have g11 := get_put_same s10 s3.next (some (.row (tabR (updR f 42 (.slice (some ⟨s9.next, 0, none⟩) 2 2)) (.slice (some ⟨st'.next, 0, none⟩) (2 + 1) 3)) 0 false))
          have o11 : ∀ i, s3.next ≠ i → (s10.put s3.next (some (.row (tabR (updR f 42 (.slice (some ⟨s9.next, 0, none⟩) 2 2)) (.slice (some ⟨st'.next, 0, none⟩) (2 + 1) 3)) 0 false))).get i = s10.get i := fun i hi => get_put_ne _ _ _ _ hi
          have n11 : (s10.put s3.next (some (.row (tabR (updR f 42 (.slice (some ⟨s9.next, 0, none⟩) 2 2)) (.slice (some ⟨st'.next, 0, none⟩) (2 + 1) 3)) 0 false))).next = s10.next := rfl
          generalize s10.put s3.next (some (.row (tabR (updR f 42 (.slice (some ⟨s9.next, 0, none⟩) 2 2)) (.slice (some ⟨st'.next, 0, none⟩) (2 + 1) 3)) 0 false)) = s11 at g11 o11 n11 ⊢
          simp (disch := omega) only [↓sxA, sxB, sxP, Nat.reduceLeDiff, reduceCtorEq, Nat.reduceEqDiff, Nat.reduceAdd, Int.reduceLT, Int.reduceLE, Int.reduceEq, Nat.reduceLT, Int.reduceToNat, Int.reduceAdd, Int.reduceSub, ↓reduceIte, nthK_tab, nthK_tabL, tabR_len, updR_at, Nat.reduceMul, Int.reduceToNat, szB1, szB2, Int.cast_ofNat_Int, ↓ixB10, ↓ixB34, ↓ixB42]
          have nx := hT.frm.nx
          have keep : ∀ i, i < s5.next → i ≠ st'.next → i ≠ s3.next → s11.get i = s5.get i := fun i h1 h2 h3 => by
            rw [o11 i (by omega), F10.old i (by omega), o9 i (by omega), o8 i (by omega), F7.old i (by omega), F6.old i (by omega)]
          refine ⟨_, rfl, ⟨3, by decide, rfl, ⟨⟨by omega, fun i hi => (keep i (by omega) (by omega) (by omega)).trans (hT.frm.old i hi)⟩, Nat.le_refl _, by omega, by omega, ⟨_, g11, fun j hj => ?_, fun d hd => ?_⟩, ⟨rest.tail, ?_, by rw [List.length_tail, hrest]⟩⟩⟩, ?_⟩
          · by_cases hj' : j = 2
            · subst hj'
              exact ⟨s9.next, 1, rfl, by omega, by omega, (o11 _ (by omega)).trans g10⟩
            · obtain ⟨a, ga, h1, h2, h3, h4⟩ := hfk j (by omega)
              refine ⟨a, ga, ?_, h2, by omega, (keep a h3 (by omega) (by omega)).trans h4⟩
              rw [updR, if_neg ?_]
              · exact h1
              · have : j = 0 ∨ j = 1 ∨ j = 2 := by omega
                rcases this with rfl | rfl | rfl
                all_goals first | omega | decide
          · rw [updR, if_neg (show ¬ d = 42 from hd 2 (by decide))]
            exact hfn d fun j hj => hd j (by omega)
          · rw [o11 _ (by omega), F10.old _ (by omega), o9 _ (by omega)]
            exact g8
          · show ((-2 : Int) + 2).toNat < ((0 : Int) + 2).toNat
            decide
        · show sx _ _ _ _ _ [(3, _), (11, _), (12, .int .i64 (-2))] _ _ _ _
          simp (disch := omega) only [↓sxA, sxB, sxP, Nat.reduceLeDiff, reduceCtorEq, Nat.reduceEqDiff, Nat.reduceAdd, Int.reduceLT, Int.reduceLE, Int.reduceEq, Nat.reduceLT, Int.reduceToNat, Int.reduceAdd, Int.reduceSub, ↓reduceIte, nthK_tab, nthK_tabL, tabR_len, updR_at, Nat.reduceMul, Int.reduceToNat, szB1, szB2, Int.cast_ofNat_Int, ↓ixB10, ↓ixB34, ↓ixB42]
          exact h _ _ _ hT
end

/-! behind the build -/
/-- what a byte becomes -/
def escB (c : UInt8) : List UInt8 := if c = 10 then [42, 110] else if c = 34 then [42, 34] else if c = 42 then [42, 42] else [c]

/-- the replacer's own row, before it is built -/
def repRow (b : Nat) : List Value := [.int .u32 0, .int .i32 0, .int .u32 0, .nilIface, .slice (some ⟨b, 0, none⟩) 6 6]

/-- the row of a replacer that is built -/
structure RepF (lo : Nat) (st : St) (t : Nat) : Prop where
  lt : lo ≤ t
  tn : t < st.next
  row : ∃ f tr, st.get t = some (.row (tabR f (.slice (some ⟨tr, 0, none⟩) 3 3)) 0 false) ∧ lo ≤ tr ∧ tr < st.next ∧ st.get tr = some (.row [.string ⟨#[10]⟩, .string ⟨#[34]⟩, .string ⟨#[42]⟩] 0 false) ∧
    (∀ c : UInt8, (c = 10 ∨ c = 34 ∨ c = 42) → ∃ a g, f c.toNat = .slice (some ⟨a, 0, none⟩) 2 2 ∧ lo ≤ a ∧ a < st.next ∧ st.get a = some (.row ((escB c).map u8v) g false)) ∧
    ∀ c : UInt8, c ≠ 10 → c ≠ 34 → c ≠ 42 → f c.toNat = .slice none 0 0

theorem RepF.keep {lo : Nat} {st st' : St} {t : Nat} (h : RepF lo st t) (hn : st.next ≤ st'.next) (hk : ∀ i, lo ≤ i → i < st.next → st'.get i = st.get i) : RepF lo st' t := by
  obtain ⟨f, tr, h1, h2, h3, h4, h5, h6⟩ := h.row
  have hlt := h.lt
  have htn := h.tn
  refine ⟨hlt, by omega, f, tr, (hk t hlt htn).trans h1, h2, by omega, (hk tr h2 h3).trans h4, fun c hc => ?_, h6⟩
  obtain ⟨a, g, k1, k2, k3, k4⟩ := h5 c hc
  exact ⟨a, g, k1, k2, by omega, (hk a k2 k3).trans k4⟩

theorem TabS.rep {s0 st : St} {tr t : Nat} (h : TabS s0 st tr t 3) : RepF s0.next st t := by
  obtain ⟨f, h1, h2, h3⟩ := h.row
  obtain ⟨rest, h4, h5⟩ := h.strs
  have hr : rest = [] := List.eq_nil_of_length_eq_zero h5
  subst hr
  have a1 := h.trg
  have a2 := h.tt
  have a3 := h.tn
  refine ⟨by omega, a3, f, tr, h1, a1, by omega, h4, fun c hc => ?_, fun c c1 c2 c3 => ?_⟩
  · rcases hc with rfl | rfl | rfl
    · obtain ⟨a, g, k1, k2, k3, k4⟩ := h2 0 (by decide)
      exact ⟨a, g, k1, by omega, k3, k4⟩
    · obtain ⟨a, g, k1, k2, k3, k4⟩ := h2 1 (by decide)
      exact ⟨a, g, k1, by omega, k3, k4⟩
    · obtain ⟨a, g, k1, k2, k3, k4⟩ := h2 2 (by decide)
      exact ⟨a, g, k1, by omega, k3, k4⟩
  · refine h3 _ fun j hj => ?_
    have : j = 0 ∨ j = 1 ∨ j = 2 := by omega
    rcases this with rfl | rfl | rfl
    · exact fun e => c1 (UInt8.toNat.inj e)
    · exact fun e => c2 (UInt8.toNat.inj e)
    · exact fun e => c3 (UInt8.toNat.inj e)

section
variable {st : St} {K : Value → St → Prop}

theorem kBuildOnce (n : Nat) {p b : Nat} {x y z u : Value} {g' : Nat} {ro' : Bool} (hp : st.get p = some (.row [x, y, z, u, .slice (some ⟨b, 0, none⟩) 6 6] 0 false)) (hb : st.get b = some (.row six g' ro')) (hpl : p < st.next) (hbl : b < st.next)
    (h : ∀ st' t, RepF st.next st' t → st.next ≤ st'.next → (∀ i, i ≠ p → i < st.next → st'.get i = st.get i) → st'.get p = some (.row [x, y, z, .iface 211 (.pointer (some ⟨t, 0, none⟩)), .slice none 0 0] 0 false) → K (.tuple #[]) st') : callK (callO T0 orc fns 100000 (n + 2)) 117 [.pointer (some ⟨p, 0, none⟩)] st K := by
  refine fn_runs (fn := g117) ?_ ?_ ?_
  · rfl
  · rfl
  unfold g117
  simp (disch := omega) only [↓sxA, ↓wk_store, sxB, sxP, Nat.reduceLeDiff, reduceCtorEq, Nat.reduceEqDiff, Nat.reduceAdd, Int.reduceLT, Int.reduceLE, Int.reduceEq, Nat.reduceLT, Int.reduceToNat, Int.reduceAdd, Int.reduceSub, ↓reduceIte]
  refine kBuild n hp hb hpl hbl fun s1 tr t hT => ?_
  have hp1 := (hT.frm.old p hpl).trans hp
  have nx := hT.frm.nx
  simp (disch := omega) only [↓sxA, ↓wk_store, sxB, sxP, Nat.reduceLeDiff, reduceCtorEq, Nat.reduceEqDiff, Nat.reduceAdd, Int.reduceLT, Int.reduceLE, Int.reduceEq, Nat.reduceLT, Int.reduceToNat, Int.reduceAdd, Int.reduceSub, ↓reduceIte, hp1]
  refine h _ t (hT.rep.keep (Nat.le_refl _) fun i h1 h2 => ?_) nx (fun i hi hl => ?_) (get_put_same _ _ _)
  · rw [get_put_ne _ _ _ _ (by omega), get_put_ne _ _ _ _ (by omega)]
  · rw [get_put_ne _ _ _ _ (Ne.symm hi), get_put_ne _ _ _ _ (Ne.symm hi)]
    exact hT.frm.old i hl

/-- the flag is read -/
theorem kLoad (n : Nat) {b o g : Nat} {cs : List Value} {x : Int} (hb : st.get b = some (.row cs g false)) (hc : cs[o]? = some (.int .u32 x)) (h : K (.bool (x != 0)) st) : callK (callO T0 orc fns 100000 n) 140 [.pointer (some ⟨b, o, none⟩)] st K := by
  rw [callO_none (by rfl)]
  have e : orc 140 [.pointer (some ⟨b, o, none⟩)] st = .ret (.bool (x != 0), st) := by
    rw [orc_eq (by decide)]
    simp [orc1, lockO, hb, hc]
  exact (propext (callK_ret (K := K) e)).mpr h
theorem swapAt_eq {b o g : Nat} {k : IntKind} {x y : Int} {cs : List Value} (hb : st.get b = some (.row cs g false)) (hc : cs[o]? = some (.int k x)) : swapAt st b o k x y = some (st.put b (some (.row (lputs cs o [.int k y]) g false))) := by
  simp [swapAt, hb, hc]
theorem kLock1 (n : Nat) {b o g : Nat} {cs : List Value} (hb : st.get b = some (.row cs g false)) (hc : cs[o]? = some (.int .i32 0)) (h : K (.tuple #[]) (st.put b (some (.row (lputs cs o [.int .i32 1]) g false)))) : callK (callO T0 orc fns 100000 n) 160 [.pointer (some ⟨b, o, none⟩)] st K := by
  rw [callO_none (by rfl)]
  have e : orc 160 [.pointer (some ⟨b, o, none⟩)] st = .ret (.tuple #[], st.put b (some (.row (lputs cs o [.int .i32 1]) g false))) := by
    rw [orc_eq (by decide)]
    simp [orc1, lockO, swapAt_eq hb hc]
  exact (propext (callK_ret (K := K) e)).mpr h
theorem kUnlock1 (n : Nat) {b o g : Nat} {cs : List Value} (hb : st.get b = some (.row cs g false)) (hc : cs[o]? = some (.int .i32 1)) (h : K (.tuple #[]) (st.put b (some (.row (lputs cs o [.int .i32 0]) g false)))) : callK (callO T0 orc fns 100000 n) 161 [.pointer (some ⟨b, o, none⟩)] st K := by
  rw [callO_none (by rfl)]
  have e : orc 161 [.pointer (some ⟨b, o, none⟩)] st = .ret (.tuple #[], st.put b (some (.row (lputs cs o [.int .i32 0]) g false))) := by
    rw [orc_eq (by decide)]
    simp [orc1, lockO, swapAt_eq hb hc]
  exact (propext (callK_ret (K := K) e)).mpr h
theorem kStoreD {b o g : Nat} {cs : List Value} (hb : st.get b = some (.row cs g false)) (hc : cs[o]? = some (.int .u32 0)) (h : K (.tuple #[]) (st.put b (some (.row (lputs cs o [.int .u32 1]) g false)))) : callK T0.dfr 154 [.pointer (some ⟨b, o, none⟩), .bool true] st K := by
  have e : T0.dfr 154 [.pointer (some ⟨b, o, none⟩), .bool true] st = .ret (.tuple #[], st.put b (some (.row (lputs cs o [.int .u32 1]) g false))) := by
    have e0 : T0.dfr = dfrO := rfl
    rw [e0]
    simp [dfrO, swapAt_eq hb hc]
  exact (propext (callK_ret (K := K) e)).mpr h

theorem kLock (n : Nat) {b o g : Nat} {cs : List Value} (hb : st.get b = some (.row cs g false)) (hc : cs[o]? = some (.int .i32 0)) (h : K (.tuple #[]) (st.put b (some (.row (lputs cs o [.int .i32 1]) g false)))) : callK (callO T0 orc fns 100000 (n + 1)) 152 [.pointer (some ⟨b, o, none⟩)] st K := by
  refine fn_runs (fn := g152) ?_ ?_ ?_
  · rfl
  · rfl
  unfold g152
  simp (disch := omega) only [↓sxA, ↓wk_store, sxB, sxP, Nat.reduceLeDiff, reduceCtorEq, Nat.reduceEqDiff, Nat.reduceAdd, Int.reduceLT, Int.reduceLE, Int.reduceEq, Nat.reduceLT, Int.reduceToNat, Int.reduceAdd, Int.reduceSub, ↓reduceIte]
  refine kLock1 n hb hc ?_
  simp (disch := omega) only [↓sxA, ↓wk_store, sxB, sxP, Nat.reduceLeDiff, reduceCtorEq, Nat.reduceEqDiff, Nat.reduceAdd, Int.reduceLT, Int.reduceLE, Int.reduceEq, Nat.reduceLT, Int.reduceToNat, Int.reduceAdd, Int.reduceSub, ↓reduceIte]
  exact h
theorem kUnlock (n : Nat) {b o g : Nat} {cs : List Value} (hb : st.get b = some (.row cs g false)) (hc : cs[o]? = some (.int .i32 1)) (h : K (.tuple #[]) (st.put b (some (.row (lputs cs o [.int .i32 0]) g false)))) : callK (callO T0 orc fns 100000 (n + 1)) 153 [.pointer (some ⟨b, o, none⟩)] st K := by
  refine fn_runs (fn := g153) ?_ ?_ ?_
  · rfl
  · rfl
  unfold g153
  simp (disch := omega) only [↓sxA, ↓wk_store, sxB, sxP, Nat.reduceLeDiff, reduceCtorEq, Nat.reduceEqDiff, Nat.reduceAdd, Int.reduceLT, Int.reduceLE, Int.reduceEq, Nat.reduceLT, Int.reduceToNat, Int.reduceAdd, Int.reduceSub, ↓reduceIte]
  refine kUnlock1 n hb hc ?_
  simp (disch := omega) only [↓sxA, ↓wk_store, sxB, sxP, Nat.reduceLeDiff, reduceCtorEq, Nat.reduceEqDiff, Nat.reduceAdd, Int.reduceLT, Int.reduceLE, Int.reduceEq, Nat.reduceLT, Int.reduceToNat, Int.reduceAdd, Int.reduceSub, ↓reduceIte]
  exact h

theorem kDoSlow (n : Nat) {p b : Nat} {g' : Nat} {ro' : Bool} (hp : st.get p = some (.row (repRow b) 0 false)) (hb : st.get b = some (.row six g' ro')) (hpl : p < st.next) (hbl : b < st.next) (hpb : b ≠ p)
    (h : ∀ st' t, RepF st.next st' t → st.next ≤ st'.next → (∀ i, i ≠ p → i < st.next → st'.get i = st.get i) → st'.get p = some (.row [.int .u32 1, .int .i32 0, .int .u32 0, .iface 211 (.pointer (some ⟨t, 0, none⟩)), .slice none 0 0] 0 false) → K (.tuple #[]) st') :
    callK (callO T0 orc fns 100000 (n + 3)) 141 [.pointer (some ⟨p, 0, none⟩), .func (.func 117) #[.pointer (some ⟨p, 0, none⟩)] #[]] st K := by
  refine fnD_runs (fn := g141) ?_ ?_ ?_ ?_
  · rfl
  · rfl
  · rfl
  unfold g141
  have dk := fun args s K => deferK (T := T0) (O := orc) (fns := fns) (n := n + 1) (m := 100000) (f := 153) (fn := g153) rfl rfl args s K
  have dO := fun args s K => deferO (T := T0) (C := callO T0 orc fns 100000 (n + 2)) (fns := fns) (n := n + 2) (f := 154) rfl args s K
  simp (disch := omega) only [↓sxA, ↓wk_store, sxB, sxP, Nat.reduceLeDiff, reduceCtorEq, Nat.reduceEqDiff, Nat.reduceAdd, Int.reduceLT, Int.reduceLE, Int.reduceEq, Nat.reduceLT, Int.reduceToNat, Int.reduceAdd, Int.reduceSub, ↓reduceIte]
  refine kLock (n + 1) hp rfl ?_
  have g1 : (st.put p (some (.row (lputs (repRow b) 1 [.int .i32 1]) 0 false))).get p = some (.row [.int .u32 0, .int .i32 1, .int .u32 0, .nilIface, .slice (some ⟨b, 0, none⟩) 6 6] 0 false) := get_put_same _ _ _
  have o1 : ∀ i, i ≠ p → (st.put p (some (.row (lputs (repRow b) 1 [.int .i32 1]) 0 false))).get i = st.get i := fun i hi => get_put_ne _ _ _ _ (Ne.symm hi)
  have n1 : (st.put p (some (.row (lputs (repRow b) 1 [.int .i32 1]) 0 false))).next = st.next := rfl
  generalize st.put p (some (.row (lputs (repRow b) 1 [.int .i32 1]) 0 false)) = s1 at g1 o1 n1 ⊢
  simp (disch := omega) only [↓sxA, ↓wk_store, sxB, sxP, Nat.reduceLeDiff, reduceCtorEq, Nat.reduceEqDiff, Nat.reduceAdd, Int.reduceLT, Int.reduceLE, Int.reduceEq, Nat.reduceLT, Int.reduceToNat, Int.reduceAdd, Int.reduceSub, ↓reduceIte]
  refine kLoad (n + 2) g1 rfl ?_
  rw [show ((0 : Int) != 0) = false from rfl]
  simp (disch := omega) only [↓sxA, ↓wk_store, sxB, sxP, Nat.reduceLeDiff, reduceCtorEq, Nat.reduceEqDiff, Nat.reduceAdd, Int.reduceLT, Int.reduceLE, Int.reduceEq, Nat.reduceLT, Int.reduceToNat, Int.reduceAdd, Int.reduceSub, ↓reduceIte, List.toList_toArray, List.nil_append, List.append_nil, List.cons_append]
  refine kBuildOnce n g1 ((o1 b hpb).trans hb) (by omega) (by omega) fun s2 t hR nx2 o2 g2 => ?_
  simp (disch := omega) only [↓sxA, ↓wk_store, sxB, sxP, Nat.reduceLeDiff, reduceCtorEq, Nat.reduceEqDiff, Nat.reduceAdd, Int.reduceLT, Int.reduceLE, Int.reduceEq, Nat.reduceLT, Int.reduceToNat, Int.reduceAdd, Int.reduceSub, ↓reduceIte, dO, List.toList_toArray, List.nil_append, List.append_nil, List.cons_append]
  refine kStoreD g2 rfl ?_
  have g3 : (s2.put p (some (.row (lputs [.int .u32 0, .int .i32 1, .int .u32 0, .iface 211 (.pointer (some ⟨t, 0, none⟩)), .slice none 0 0] 0 [.int .u32 1]) 0 false))).get p = some (.row [.int .u32 1, .int .i32 1, .int .u32 0, .iface 211 (.pointer (some ⟨t, 0, none⟩)), .slice none 0 0] 0 false) := get_put_same _ _ _
  have o3 : ∀ i, i ≠ p → (s2.put p (some (.row (lputs [.int .u32 0, .int .i32 1, .int .u32 0, .iface 211 (.pointer (some ⟨t, 0, none⟩)), .slice none 0 0] 0 [.int .u32 1]) 0 false))).get i = s2.get i := fun i hi => get_put_ne _ _ _ _ (Ne.symm hi)
  have n3 : (s2.put p (some (.row (lputs [.int .u32 0, .int .i32 1, .int .u32 0, .iface 211 (.pointer (some ⟨t, 0, none⟩)), .slice none 0 0] 0 [.int .u32 1]) 0 false))).next = s2.next := rfl
  generalize s2.put p _ = s3 at g3 o3 n3 ⊢
  simp (disch := omega) only [↓sxA, ↓wk_store, sxB, sxP, Nat.reduceLeDiff, reduceCtorEq, Nat.reduceEqDiff, Nat.reduceAdd, Int.reduceLT, Int.reduceLE, Int.reduceEq, Nat.reduceLT, Int.reduceToNat, Int.reduceAdd, Int.reduceSub, ↓reduceIte, dk, List.toList_toArray, List.nil_append, List.append_nil, List.cons_append]
  trace_state
  refine kUnlock (n + 1) g3 rfl ?_
  simp (disch := omega) only [↓sxA, ↓wk_store, sxB, sxP, Nat.reduceLeDiff, reduceCtorEq, Nat.reduceEqDiff, Nat.reduceAdd, Int.reduceLT, Int.reduceLE, Int.reduceEq, Nat.reduceLT, Int.reduceToNat, Int.reduceAdd, Int.reduceSub, ↓reduceIte]
  rw [n1] at hR nx2
  refine h _ t (hR.keep (Nat.le_of_eq n3.symm) fun i h1 h2 => ?_) (by show st.next ≤ s3.next; omega) (fun i hi hl => ?_) (get_put_same _ _ _)
  · rw [get_put_ne _ _ _ _ (by omega), o3 i (by omega)]
  · rw [get_put_ne _ _ _ _ (Ne.symm hi), o3 i hi, o2 i hi (by omega), o1 i hi]
end
end Go.Proofs.YtdmemibnphcedaaGreatDoor
end
section
set_option linter.unusedSimpArgs false
set_option linter.unusedVariables false
set_option maxRecDepth 10000
set_option linter.unusedSectionVars false
namespace Go.Proofs.YtdmemibnphcedaaGreatDoor
open Go.Am

/-- bytes that something else stands for -/
def isE (c : UInt8) : Bool := c == 10 || c == 34 || c == 42
def nesc (l : List UInt8) : Nat := l.countP isE
def escL (l : List UInt8) : List UInt8 := l.flatMap escB
theorem isE_iff {c : UInt8} : isE c = true ↔ c = 10 ∨ c = 34 ∨ c = 42 := by simp [isE, or_assoc]
theorem escB_e {c : UInt8} (h : isE c = true) : (escB c).length = 2 := by
  rcases isE_iff.1 h with rfl | rfl | rfl <;> rfl
theorem escB_n {c : UInt8} (h : isE c = false) : escB c = [c] := by
  simp only [isE, Bool.or_eq_false_iff, beq_eq_false_iff_ne] at h
  obtain ⟨⟨h1, h2⟩, h3⟩ := h
  rw [escB, if_neg h1, if_neg h2, if_neg h3]
theorem escL_len (l : List UInt8) : (escL l).length = l.length + nesc l := by
  induction l with
  | nil => rfl
  | cons c l ih =>
    unfold escL nesc at *
    rw [List.flatMap_cons, List.length_append, ih, List.countP_cons, List.length_cons]
    cases h : isE c with
    | true => rw [escB_e h]; simp; omega
    | false => rw [escB_n h]; simp; omega
theorem escL_none (l : List UInt8) (h : nesc l = 0) : escL l = l := by
  induction l with
  | nil => rfl
  | cons c l ih =>
    unfold escL nesc at *
    rw [List.countP_cons] at h
    cases hc : isE c with
    | true => rw [hc] at h; simp at h
    | false =>
      rw [hc] at h
      simp at h
      rw [List.flatMap_cons, escB_n hc, ih (by simpa using h)]
      rfl
theorem escL_append (a b : List UInt8) : escL (a ++ b) = escL a ++ escL b := List.flatMap_append
theorem nesc_append (a b : List UInt8) : nesc (a ++ b) = nesc a + nesc b := List.countP_append
theorem nesc_le (l : List UInt8) : nesc l ≤ l.length := List.countP_le_length
theorem nesc_sum (l : List UInt8) : l.count 10 + l.count 34 + l.count 42 = nesc l := by
  induction l with
  | nil => rfl
  | cons c l ih =>
    unfold nesc at *
    rw [List.countP_cons, List.count_cons, List.count_cons, List.count_cons, ← ih]
    by_cases h1 : c = 10
    · subst h1; simp [isE]; omega
    by_cases h2 : c = 34
    · subst h2; simp [isE]; omega
    by_cases h3 : c = 42
    · subst h3; simp [isE]; omega
    · simp [isE, h1, h2, h3]

theorem mkU8 (n : Nat) : replicateL n [Value.int .u8 0] = (List.replicate n (0 : UInt8)).map u8v := by
  induction n with
  | zero => rfl
  | succ n ih => rw [replicateL, ih, List.replicate_succ, List.map_cons]; rfl
theorem wk_mkU {s : St} {W : Value → St → Prop} (n : Nat) (hn : n ≤ 1099511627776) : wopK (.mkSlice [.int .u8 0] 1) [.int .i64 (n : Int), .int .i64 (n : Int)] s W = W (.slice (some ⟨s.next, 0, none⟩) n n) (s.new (.row ((List.replicate n (0 : UInt8)).map u8v) 0 false)) := by
  rw [← mkU8]
  simp only [wopK, wop]
  rw [if_pos ⟨by omega, by omega, by omega, by omega⟩]
  rfl
/-- the rest of a row of bytes -/
theorem rk_slLo {st : St} {b N : Nat} {l : List UInt8} {g : Nat} {ro : Bool} (hb : st.get b = some (.row (l.map u8v) g ro)) (hg : g = 0 ∨ g = 1) (hl : l.length = N) (j : Nat) (hj : j < N) (K : Value → Prop) : ropK (.sl 1 true false) [.slice (some ⟨b, 0, none⟩) N N, .int .i64 (j : Int)] st K = K (.slice (some ⟨b, j, none⟩) (N - j) (N - j)) := by
  have hB : Bys st (.slice (some ⟨b, 0, none⟩) N N) l := .inr (.inl ⟨b, 0, N, l.map u8v, g, ro, by rw [hl], by omega, hb, hg, by simp, by rw [List.drop_zero, List.take_of_length_le (by simp)]⟩)
  rw [sllo_bys hB .i64 (j : Int) K (by omega) (by omega), Int.toNat_natCast]
  have e : blo (.slice (some ⟨b, 0, none⟩) N N) j = .slice (some ⟨b, j, none⟩) (N - j) (N - j) := by
    unfold blo
    simp only
    rw [if_neg (by omega)]
    unfold addA
    split
    · rename_i h0; rw [show j = 0 by omega]
    · simp
  rw [e]
/-- bytes are copied into a row -/
theorem wk_copyB {st : St} {b a j L C g g' : Nat} {ro' : Bool} {cs : List Value} {x : List UInt8} (hb : st.get b = some (.row cs g false)) (ha : st.get a = some (.row (x.map u8v) g' ro')) (hx : x.length = 2) (hL : 2 ≤ L) (hj : j + 2 ≤ cs.length) {W : Value → St → Prop}
    (h : W (.int .i64 2) (st.put b (some (.row (lputs cs j (x.map u8v)) g false)))) : wopK (.copy 1) [.slice (some ⟨b, j, none⟩) L C, .slice (some ⟨a, 0, none⟩) 2 2] st W := by
  have h1 : st.srcCells 1 (.slice (some ⟨a, 0, none⟩) 2 2) = some (x.map u8v) := by
    simp only [St.srcCells, St.cells, ha]
    rw [if_neg (by decide), if_pos (by simp [hx]), List.drop_zero, List.take_of_length_le (by simp [hx])]
  have hm : Nat.min 2 L = 2 := Nat.min_eq_left hL
  have h2 : st.storeAt ⟨b, j, none⟩ (x.map u8v) = some (st.put b (some (.row (lputs cs j (x.map u8v)) g false))) := by
    simp only [St.storeAt, hb]
    rw [if_pos ⟨by simp [hx]; omega, all_u8 x⟩]
  simp only [wopK, wop, srcLen, h1, hm]
  rw [List.take_of_length_le (by simp [hx]), h2]
  exact h
theorem lputs_u8 {a z x : List UInt8} {j : Nat} (hj : j = a.length) (hx : x.length ≤ z.length) : lputs ((a ++ z).map u8v) j (x.map u8v) = ((a ++ x) ++ z.drop x.length).map u8v := by
  subst hj
  unfold lputs
  simp [List.map_append, List.map_drop, List.drop_append]
theorem escL_take (l : List UInt8) (i : Nat) (c : UInt8) (h : l[i]? = some c) : escL (l.take (i + 1)) = escL (l.take i) ++ escB c := by
  rw [List.take_add_one, h, escL_append]
  simp [escL]
theorem nesc_take (l : List UInt8) (i : Nat) (c : UInt8) (h : l[i]? = some c) : nesc (l.take (i + 1)) = nesc (l.take i) + (if isE c then 1 else 0) := by
  rw [List.take_add_one, h, nesc_append]
  simp [nesc, List.countP_cons]
theorem escL_take_le (l : List UInt8) (i : Nat) : (escL (l.take i)).length ≤ (escL l).length := by
  have := escL_append (l.take i) (l.drop i)
  rw [List.take_append_drop] at this
  rw [this, List.length_append]
  omega

attribute [local irreducible] callO wopK ropK popK opK grpsE listE sx Runs

section
variable {st : St} {K : Value → St → Prop}

theorem kCount (n : Nat) (s : ByteArray) (c : UInt8) (h : K (.int .i64 (s.data.toList.count c : Nat)) st) : callK (callO T0 orc fns 100000 n) 99 [.string s, .string ⟨#[c]⟩] st K := by
  rw [callO_none (by rfl)]
  have e : orc 99 [.string s, .string ⟨#[c]⟩] st = .ret (.int .i64 (s.data.toList.count c : Nat), st) := by
    rw [orc_eq (by decide)]
    simp [orc1, Lib.countByte]
  exact (propext (callK_ret (K := K) e)).mpr h

theorem kRepl (n : Nat) {lo t : Nat} (s : ByteArray) (hs : s.size ≤ 40000) (hR : RepF lo st t) (hl : lo ≤ st.next) (h : ∀ st', Frm st st' → K (.string (bs (escL s.data.toList))) st') : callK (callO T0 orc fns 100000 (n + 1)) 225 [.pointer (some ⟨t, 0, none⟩), .string s] st K := by
  refine fn_runs (fn := g225) ?_ ?_ ?_
  · rfl
  · rfl
  unfold g225
  obtain ⟨f, tr, hrow, ht1, ht2, hstr, hE, hN⟩ := hR.row
  have hsz := size_list s
  have hne := nesc_le s.data.toList
  simp (disch := omega) only [↓sxA, ↓wk_store, sxB, sxP, Nat.reduceLeDiff, reduceCtorEq, Nat.reduceEqDiff, Nat.reduceAdd, Int.reduceLT, Int.reduceLE, Int.reduceEq, Nat.reduceLT, Int.reduceToNat, Int.reduceAdd, Int.reduceSub, ↓reduceIte, hrow, nthK_tabL, Nat.zero_add]
  refine iteI (fun _ => ?_) (fun _ => ?_)
  · refine loop_rule [0, 1, 5, 6, 30, 31, 32] (fun vs st' => st' = st ∧ (vs = [.pointer (some ⟨t, 0, none⟩), .string s, .int .i64 ((s.size + (0) : Nat) : Int), .bool (decide (0 ≠ 0)), .slice (some ⟨tr, 0, none⟩) 3 3, .int .i64 3, .int .i64 0] ∨ vs = [.pointer (some ⟨t, 0, none⟩), .string s, .int .i64 ((s.size + (s.data.toList.count 10) : Nat) : Int), .bool (decide (s.data.toList.count 10 ≠ 0)), .slice (some ⟨tr, 0, none⟩) 3 3, .int .i64 3, .int .i64 1] ∨ vs = [.pointer (some ⟨t, 0, none⟩), .string s, .int .i64 ((s.size + (s.data.toList.count 10 + s.data.toList.count 34) : Nat) : Int), .bool (decide (s.data.toList.count 10 + s.data.toList.count 34 ≠ 0)), .slice (some ⟨tr, 0, none⟩) 3 3, .int .i64 3, .int .i64 2] ∨ vs = [.pointer (some ⟨t, 0, none⟩), .string s, .int .i64 ((s.size + (s.data.toList.count 10 + s.data.toList.count 34 + s.data.toList.count 42) : Nat) : Int), .bool (decide (s.data.toList.count 10 + s.data.toList.count 34 + s.data.toList.count 42 ≠ 0)), .slice (some ⟨tr, 0, none⟩) 3 3, .int .i64 3, .int .i64 3])) (fun vs _ => match lget vs 6 with
      | .int _ k => (3 - k).toNat
      | _ => 0) ?_ ?_ ?_
    · rfl
    · refine ⟨_, rfl, ⟨rfl, .inl rfl⟩, ?_⟩
      show ((3 : Int) - 0).toNat < 100000
      decide
    · rintro vs st' ⟨rfl, hj⟩
      rcases hj with rfl | rfl | rfl | rfl
      · show sx _ _ _ _ _ [(0, _), (1, _), (5, _), (6, _), (30, _), (31, _), (32, _)] _ _ _ _
        simp (disch := omega) only [↓sxA, ↓wk_store, sxB, sxP, Nat.reduceLeDiff, reduceCtorEq, Nat.reduceEqDiff, Nat.reduceAdd, Int.reduceLT, Int.reduceLE, Int.reduceEq, Nat.reduceLT, Int.reduceToNat, Int.reduceAdd, Int.reduceSub, ↓reduceIte, hstr, nthK_tab, nthK_tabL, tabR_len, Nat.zero_add, Nat.reduceMul, Int.reduceToNat, szB1, szB2, Int.cast_ofNat_Int, ↓ixB10, ↓ixB34, ↓ixB42]
        refine kCount n s 10 ?_
        obtain ⟨a, ga, hf, _, _, hga⟩ := hE 10 (by decide)
        have hf' : f 10 = .slice (some ⟨a, 0, none⟩) 2 2 := hf
        have hsum := nesc_sum s.data.toList
        have hw : wrapF .i64 ((s.data.toList.count 10 : Int) * 1) = s.data.toList.count 10 := by rw [Int.mul_one, wrap64 (by omega) (by omega)]
        simp (disch := omega) only [↓sxA, ↓wk_store, sxB, sxP, Nat.reduceLeDiff, reduceCtorEq, Nat.reduceEqDiff, Nat.reduceAdd, Int.reduceLT, Int.reduceLE, Int.reduceEq, Nat.reduceLT, Int.reduceToNat, Int.reduceAdd, Int.reduceSub, ↓reduceIte, hrow, hf', hw, nthK_tab, nthK_tabL, tabR_len, Nat.zero_add, Nat.reduceMul, Int.reduceToNat, szB1, szB2, Int.cast_ofNat_Int, ↓ixB10, ↓ixB34, ↓ixB42]
        refine iteI (fun c1 => ?_) (fun c1 => ?_)
        · have z : s.data.toList.count 10 = 0 := by omega
          refine ⟨_, rfl, .inr (.inl (by simp [z])), ?_⟩
          show ((3 : Int) - 1).toNat < ((3 : Int) - 0).toNat
          decide
        · have z : ¬ s.data.toList.count 10 = 0 := by omega
          refine ⟨_, rfl, .inr (.inl ?_), ?_⟩
          · rw [decide_eq_true z]
            congr 5
            try (simp; try omega)
          · show ((3 : Int) - 1).toNat < ((3 : Int) - 0).toNat
            decide
      · show sx _ _ _ _ _ [(0, _), (1, _), (5, _), (6, _), (30, _), (31, _), (32, _)] _ _ _ _
        simp (disch := omega) only [↓sxA, ↓wk_store, sxB, sxP, Nat.reduceLeDiff, reduceCtorEq, Nat.reduceEqDiff, Nat.reduceAdd, Int.reduceLT, Int.reduceLE, Int.reduceEq, Nat.reduceLT, Int.reduceToNat, Int.reduceAdd, Int.reduceSub, ↓reduceIte, hstr, nthK_tab, nthK_tabL, tabR_len, Nat.zero_add, Nat.reduceMul, Int.reduceToNat, szB1, szB2, Int.cast_ofNat_Int, ↓ixB10, ↓ixB34, ↓ixB42]
        refine kCount n s 34 ?_
        obtain ⟨a, ga, hf, _, _, hga⟩ := hE 34 (by decide)
        have hf' : f 34 = .slice (some ⟨a, 0, none⟩) 2 2 := hf
        have hsum := nesc_sum s.data.toList
        have hw : wrapF .i64 ((s.data.toList.count 34 : Int) * 1) = s.data.toList.count 34 := by rw [Int.mul_one, wrap64 (by omega) (by omega)]
        simp (disch := omega) only [↓sxA, ↓wk_store, sxB, sxP, Nat.reduceLeDiff, reduceCtorEq, Nat.reduceEqDiff, Nat.reduceAdd, Int.reduceLT, Int.reduceLE, Int.reduceEq, Nat.reduceLT, Int.reduceToNat, Int.reduceAdd, Int.reduceSub, ↓reduceIte, hrow, hf', hw, nthK_tab, nthK_tabL, tabR_len, Nat.zero_add, Nat.reduceMul, Int.reduceToNat, szB1, szB2, Int.cast_ofNat_Int, ↓ixB10, ↓ixB34, ↓ixB42]
        refine iteI (fun c1 => ?_) (fun c1 => ?_)
        · have z : s.data.toList.count 34 = 0 := by omega
          refine ⟨_, rfl, .inr (.inr (.inl (by simp [z]))), ?_⟩
          show ((3 : Int) - 2).toNat < ((3 : Int) - 1).toNat
          decide
        · have z : ¬ s.data.toList.count 10 + s.data.toList.count 34 = 0 := by omega
          refine ⟨_, rfl, .inr (.inr (.inl ?_)), ?_⟩
          · rw [decide_eq_true z]
            congr 5
            try (simp; try omega)
          · show ((3 : Int) - 2).toNat < ((3 : Int) - 1).toNat
            decide
      · show sx _ _ _ _ _ [(0, _), (1, _), (5, _), (6, _), (30, _), (31, _), (32, _)] _ _ _ _
        simp (disch := omega) only [↓sxA, ↓wk_store, sxB, sxP, Nat.reduceLeDiff, reduceCtorEq, Nat.reduceEqDiff, Nat.reduceAdd, Int.reduceLT, Int.reduceLE, Int.reduceEq, Nat.reduceLT, Int.reduceToNat, Int.reduceAdd, Int.reduceSub, ↓reduceIte, hstr, nthK_tab, nthK_tabL, tabR_len, Nat.zero_add, Nat.reduceMul, Int.reduceToNat, szB1, szB2, Int.cast_ofNat_Int, ↓ixB10, ↓ixB34, ↓ixB42]
        refine kCount n s 42 ?_
        obtain ⟨a, ga, hf, _, _, hga⟩ := hE 42 (by decide)
        have hf' : f 42 = .slice (some ⟨a, 0, none⟩) 2 2 := hf
        have hsum := nesc_sum s.data.toList
        have hw : wrapF .i64 ((s.data.toList.count 42 : Int) * 1) = s.data.toList.count 42 := by rw [Int.mul_one, wrap64 (by omega) (by omega)]
        simp (disch := omega) only [↓sxA, ↓wk_store, sxB, sxP, Nat.reduceLeDiff, reduceCtorEq, Nat.reduceEqDiff, Nat.reduceAdd, Int.reduceLT, Int.reduceLE, Int.reduceEq, Nat.reduceLT, Int.reduceToNat, Int.reduceAdd, Int.reduceSub, ↓reduceIte, hrow, hf', hw, nthK_tab, nthK_tabL, tabR_len, Nat.zero_add, Nat.reduceMul, Int.reduceToNat, szB1, szB2, Int.cast_ofNat_Int, ↓ixB10, ↓ixB34, ↓ixB42]
        refine iteI (fun c1 => ?_) (fun c1 => ?_)
        · have z : s.data.toList.count 42 = 0 := by omega
          refine ⟨_, rfl, .inr (.inr (.inr (by simp [z]))), ?_⟩
          show ((3 : Int) - 3).toNat < ((3 : Int) - 2).toNat
          decide
        · have z : ¬ s.data.toList.count 10 + s.data.toList.count 34 + s.data.toList.count 42 = 0 := by omega
          refine ⟨_, rfl, .inr (.inr (.inr (?_))), ?_⟩
          · rw [decide_eq_true z]
            congr 5
            try (simp; try omega)
          · show ((3 : Int) - 3).toNat < ((3 : Int) - 2).toNat
            decide
      · show sx _ _ _ _ _ [(0, _), (1, _), (5, _), (6, _), (30, _), (31, _), (32, _)] _ _ _ _
        rw [show s.data.toList.count 10 + s.data.toList.count 34 + s.data.toList.count 42 = nesc s.data.toList from nesc_sum _]
        by_cases z : nesc s.data.toList = 0
        · rw [decide_eq_false (Decidable.not_not.2 z)]
          simp (disch := omega) only [↓sxA, ↓wk_store, sxB, sxP, Nat.reduceLeDiff, reduceCtorEq, Nat.reduceEqDiff, Nat.reduceAdd, Int.reduceLT, Int.reduceLE, Int.reduceEq, Nat.reduceLT, Int.reduceToNat, Int.reduceAdd, Int.reduceSub, ↓reduceIte, nthK_tab, nthK_tabL, tabR_len, Nat.zero_add, Nat.reduceMul, Int.reduceToNat, szB1, szB2, Int.cast_ofNat_Int, ↓ixB10, ↓ixB34, ↓ixB42]
          have := h _ (Frm.refl _)
          rw [escL_none _ z, bs_of] at this
          exact this
        rw [decide_eq_true z]
        simp (disch := omega) only [↓sxA, ↓wk_store, sxB, sxP, Nat.reduceLeDiff, reduceCtorEq, Nat.reduceEqDiff, Nat.reduceAdd, Int.reduceLT, Int.reduceLE, Int.reduceEq, Nat.reduceLT, Int.reduceToNat, Int.reduceAdd, Int.reduceSub, ↓reduceIte, nthK_tab, nthK_tabL, tabR_len, Nat.zero_add, Nat.reduceMul, Int.reduceToNat, szB1, szB2, Int.cast_ofNat_Int, ↓ixB10, ↓ixB34, ↓ixB42]
        rw [wk_mkU _ (by omega)]
        have F1 := Frm.new st' (.row ((List.replicate (s.size + nesc s.data.toList) (0 : UInt8)).map u8v) 0 false)
        have g1 := get_new_same st' (.row ((List.replicate (s.size + nesc s.data.toList) (0 : UInt8)).map u8v) 0 false)
        have n1 : (st'.new (.row ((List.replicate (s.size + nesc s.data.toList) (0 : UInt8)).map u8v) 0 false)).next = st'.next + 1 := rfl
        generalize st'.new _ = s1 at F1 g1 n1 ⊢
        simp (disch := omega) only [↓sxA, ↓wk_store, sxB, sxP, Nat.reduceLeDiff, reduceCtorEq, Nat.reduceEqDiff, Nat.reduceAdd, Int.reduceLT, Int.reduceLE, Int.reduceEq, Nat.reduceLT, Int.reduceToNat, Int.reduceAdd, Int.reduceSub, ↓reduceIte, nthK_tab, nthK_tabL, tabR_len, Nat.zero_add, Nat.reduceMul, Int.reduceToNat, szB1, szB2, Int.cast_ofNat_Int, ↓ixB10, ↓ixB34, ↓ixB42]
        have hEL := escL_len s.data.toList
        refine loop_rule [0, 1, 12, 13, 14] (fun vs s2 => ∃ i : Nat, i ≤ s.size ∧ vs = [.pointer (some ⟨t, 0, none⟩), .string s, .slice (some ⟨st'.next, 0, none⟩) (s.size + nesc s.data.toList) (s.size + nesc s.data.toList), .int .i64 ((escL (s.data.toList.take i)).length : Nat), .int .i64 i] ∧ Frm st' s2 ∧ st'.next < s2.next ∧ ∃ z, s2.get st'.next = some (.row ((escL (s.data.toList.take i) ++ z).map u8v) 0 false) ∧ (escL (s.data.toList.take i)).length + z.length = s.size + nesc s.data.toList) (fun vs _ => match lget vs 4 with
            | .int _ k => ((s.size : Int) - k).toNat
            | _ => 0) ?_ ?_ ?_
        · rfl
        · refine ⟨_, rfl, ⟨0, Nat.zero_le _, rfl, F1, by omega, _, g1, by simp [escL]⟩, ?_⟩
          show ((s.size : Int) - 0).toNat < 100000
          omega
        · rintro vs s2 ⟨i, hi, rfl, F2, n2, z, g2, hz⟩
          show sx _ _ _ _ _ [(0, _), (1, _), (12, _), (13, _), (14, _)] _ _ _ _
          by_cases hj : i < s.size
          · obtain ⟨c, hc, hg, hb'⟩ := byte_at s i hj
            have hrow2 := (F2.old t hR.tn).trans hrow
            have et := escL_take _ _ _ hc
            have el := escL_take_le s.data.toList (i + 1)
            rw [et, List.length_append] at el
            cases hcE : isE c with
            | true =>
              obtain ⟨a, ga, hf, ha1, ha2, hga⟩ := hE c (isE_iff.1 hcE)
              have e2 := escB_e hcE
              have hga2 := (F2.old a ha2).trans hga
              simp (disch := omega) only [q_indexStr, Int.toNat_natCast, hg, ↓sxA, sxB, sxP, Nat.reduceLeDiff, reduceCtorEq, Nat.reduceEqDiff, Nat.reduceAdd, Int.reduceLT, Int.reduceLE, Int.reduceEq, Nat.reduceLT, Int.reduceToNat, Int.reduceAdd, Int.reduceSub, ↓reduceIte, hrow2, nthK_tab, Nat.zero_add, Nat.mul_one, hf]
              rw [rk_slLo g2 (.inl rfl) (by rw [List.length_append, hz]) _ (by omega)]
              simp (disch := omega) only [q_indexStr, Int.toNat_natCast, hg, ↓sxA, sxB, sxP, Nat.reduceLeDiff, reduceCtorEq, Nat.reduceEqDiff, Nat.reduceAdd, Int.reduceLT, Int.reduceLE, Int.reduceEq, Nat.reduceLT, Int.reduceToNat, Int.reduceAdd, Int.reduceSub, ↓reduceIte, hrow2, nthK_tab, Nat.zero_add, Nat.mul_one, hf]
              refine ⟨⟨by omega, by omega⟩, ⟨by omega, by omega⟩, ?_⟩
              refine wk_copyB g2 hga2 e2 ?_ ?_ ?_
              · omega
              · rw [List.length_map, List.length_append]; omega
              rw [lputs_u8 rfl (by omega), ← et]
              have g3 := get_put_same s2 st'.next (some (.row ((escL (s.data.toList.take (i + 1)) ++ z.drop (escB c).length).map u8v) 0 false))
              have F3 := F2.put st'.next (Nat.le_refl _) (some (.row ((escL (s.data.toList.take (i + 1)) ++ z.drop (escB c).length).map u8v) 0 false))
              have n3 : (s2.put st'.next (some (.row ((escL (s.data.toList.take (i + 1)) ++ z.drop (escB c).length).map u8v) 0 false))).next = s2.next := rfl
              generalize s2.put _ _ = s3 at g3 F3 n3 ⊢
              simp (disch := omega) only [↓sxA, sxB, sxP, Nat.reduceLeDiff, reduceCtorEq, Nat.reduceEqDiff, Nat.reduceAdd, Int.reduceLT, Int.reduceLE, Int.reduceEq, Nat.reduceLT, Int.reduceToNat, Int.reduceAdd, Int.reduceSub, ↓reduceIte]
              refine ⟨_, rfl, ⟨i + 1, hj, ?_, F3, by omega, _, g3, by rw [et, List.length_append, List.length_drop]; omega⟩, ?_⟩
              · rw [et, List.length_append, e2]; simp
              · show ((s.size : Int) - ((i : Int) + 1)).toNat < ((s.size : Int) - i).toNat
                omega
            | false =>
              have e1 := escB_n hcE
              have hnE : ¬ (c = 10 ∨ c = 34 ∨ c = 42) := fun hh => by rw [isE_iff.2 hh] at hcE; cases hcE
              have hf := hN c (fun e => hnE (.inl e)) (fun e => hnE (.inr (.inl e))) (fun e => hnE (.inr (.inr e)))
              simp (disch := omega) only [q_indexStr, Int.toNat_natCast, hg, ↓sxA, sxB, sxP, Nat.reduceLeDiff, reduceCtorEq, Nat.reduceEqDiff, Nat.reduceAdd, Int.reduceLT, Int.reduceLE, Int.reduceEq, Nat.reduceLT, Int.reduceToNat, Int.reduceAdd, Int.reduceSub, ↓reduceIte, hrow2, nthK_tab, Nat.zero_add, Nat.mul_one, hf]
              have l1 : (escB c).length = 1 := by rw [e1]; rfl
              refine ⟨⟨by omega, by omega⟩, ⟨by omega, by omega⟩, ?_⟩
              rw [wk_store, g2]
              simp only [getK, rowK, cells_int]
              refine ⟨rfl, ⟨by first | trivial | rfl, by rw [List.length_map, List.length_append]; omega, rfl⟩, ?_⟩
              have lp := lputs_u8 (a := escL (s.data.toList.take i)) (z := z) (x := [c]) rfl (by simp; omega)
              rw [show [Value.int .u8 (c.toNat : Int)] = [c].map u8v from rfl, lp, ← e1, ← et]
              have g3 := get_put_same s2 st'.next (some (.row ((escL (s.data.toList.take (i + 1)) ++ z.drop (escB c).length).map u8v) 0 false))
              have F3 := F2.put st'.next (Nat.le_refl _) (some (.row ((escL (s.data.toList.take (i + 1)) ++ z.drop (escB c).length).map u8v) 0 false))
              have n3 : (s2.put st'.next (some (.row ((escL (s.data.toList.take (i + 1)) ++ z.drop (escB c).length).map u8v) 0 false))).next = s2.next := rfl
              generalize s2.put _ _ = s3 at g3 F3 n3 ⊢
              simp (disch := omega) only [↓sxA, sxB, sxP, Nat.reduceLeDiff, reduceCtorEq, Nat.reduceEqDiff, Nat.reduceAdd, Int.reduceLT, Int.reduceLE, Int.reduceEq, Nat.reduceLT, Int.reduceToNat, Int.reduceAdd, Int.reduceSub, ↓reduceIte]
              refine ⟨_, rfl, ⟨i + 1, hj, ?_, F3, by omega, _, g3, by rw [et, List.length_append, List.length_drop]; omega⟩, ?_⟩
              · rw [et, List.length_append, l1]; simp
              · show ((s.size : Int) - ((i : Int) + 1)).toNat < ((s.size : Int) - i).toNat
                omega
          · have e : s.data.toList.take i = s.data.toList := List.take_of_length_le (by omega)
            rw [e] at g2 hz
            have z0 : z = [] := List.eq_nil_of_length_eq_zero (by omega)
            subst z0
            rw [List.append_nil] at g2
            simp (disch := omega) only [↓sxA, sxB, sxP, Nat.reduceLeDiff, reduceCtorEq, Nat.reduceEqDiff, Nat.reduceAdd, Int.reduceLT, Int.reduceLE, Int.reduceEq, Nat.reduceLT, Int.reduceToNat, Int.reduceAdd, Int.reduceSub, ↓reduceIte]
            rw [rk_toStr (l := escL s.data.toList) g2 (by rw [List.drop_zero, List.take_of_length_le (by rw [List.length_map]; omega)]) (by rw [List.length_map]; omega)]
            simp (disch := omega) only [↓sxA, sxB, sxP, Nat.reduceLeDiff, reduceCtorEq, Nat.reduceEqDiff, Nat.reduceAdd, Int.reduceLT, Int.reduceLE, Int.reduceEq, Nat.reduceLT, Int.reduceToNat, Int.reduceAdd, Int.reduceSub, ↓reduceIte]
            exact h _ F2
  · refine loop_rule [0, 1, 5, 6, 10] (fun vs st' => st' = st ∧ ∃ i : Nat, i ≤ s.size ∧ vs = [.pointer (some ⟨t, 0, none⟩), .string s, .int .i64 ((s.size + nesc (s.data.toList.take i) : Nat) : Int), .bool (decide (nesc (s.data.toList.take i) ≠ 0)), .int .i64 i]) (fun vs _ => match lget vs 4 with
      | .int _ k => ((s.size : Int) - k).toNat
      | _ => 0) ?_ ?_ ?_
    · rfl
    · refine ⟨_, rfl, ⟨rfl, 0, Nat.zero_le _, rfl⟩, ?_⟩
      show ((s.size : Int) - 0).toNat < 100000
      omega
    · rintro vs st' ⟨rfl, i, hi, rfl⟩
      show sx _ _ _ _ _ [(0, _), (1, _), (5, _), (6, _), (10, _)] _ _ _ _
      by_cases hj : i < s.size
      · obtain ⟨c, hc, hg, hb'⟩ := byte_at s i hj
        have nt := nesc_take _ _ _ hc
        have nl := nesc_le (s.data.toList.take i)
        rw [List.length_take] at nl
        cases hcE : isE c with
        | true =>
          obtain ⟨a, ga, hf, ha1, ha2, hga⟩ := hE c (isE_iff.1 hcE)
          rw [hcE, if_pos rfl] at nt
          simp (disch := omega) only [q_indexStr, Int.toNat_natCast, hg, ↓sxA, ↓wk_store, sxB, sxP, Nat.reduceLeDiff, reduceCtorEq, Nat.reduceEqDiff, Nat.reduceAdd, Int.reduceLT, Int.reduceLE, Int.reduceEq, Nat.reduceLT, Int.reduceToNat, Int.reduceAdd, Int.reduceSub, ↓reduceIte, hrow, nthK_tab, Nat.zero_add, Nat.mul_one, hf]
          refine ⟨⟨by omega, by omega⟩, ⟨by omega, by omega⟩, _, rfl, ⟨i + 1, hj, ?_⟩, ?_⟩
          · rw [nt, decide_eq_true (show nesc (s.data.toList.take i) + 1 ≠ 0 by omega)]
            simp
            omega
          · show ((s.size : Int) - ((i : Int) + 1)).toNat < ((s.size : Int) - i).toNat
            omega
        | false =>
          have hnE : ¬ (c = 10 ∨ c = 34 ∨ c = 42) := fun hh => by rw [isE_iff.2 hh] at hcE; cases hcE
          have hf := hN c (fun e => hnE (.inl e)) (fun e => hnE (.inr (.inl e))) (fun e => hnE (.inr (.inr e)))
          rw [hcE, if_neg (by decide), Nat.add_zero] at nt
          simp (disch := omega) only [q_indexStr, Int.toNat_natCast, hg, ↓sxA, ↓wk_store, sxB, sxP, Nat.reduceLeDiff, reduceCtorEq, Nat.reduceEqDiff, Nat.reduceAdd, Int.reduceLT, Int.reduceLE, Int.reduceEq, Nat.reduceLT, Int.reduceToNat, Int.reduceAdd, Int.reduceSub, ↓reduceIte, hrow, nthK_tab, Nat.zero_add, Nat.mul_one, hf]
          refine ⟨⟨by omega, by omega⟩, _, rfl, ⟨i + 1, hj, ?_⟩, ?_⟩
          · rw [nt]
            simp
          · show ((s.size : Int) - ((i : Int) + 1)).toNat < ((s.size : Int) - i).toNat
            omega
      · have e : s.data.toList.take i = s.data.toList := List.take_of_length_le (by omega)
        rw [e]
        simp (disch := omega) only [↓sxA, ↓wk_store, sxB, sxP, Nat.reduceLeDiff, reduceCtorEq, Nat.reduceEqDiff, Nat.reduceAdd, Int.reduceLT, Int.reduceLE, Int.reduceEq, Nat.reduceLT, Int.reduceToNat, Int.reduceAdd, Int.reduceSub, ↓reduceIte, nthK_tab, nthK_tabL, tabR_len, Nat.zero_add, Nat.reduceMul, Int.reduceToNat, szB1, szB2, Int.cast_ofNat_Int, ↓ixB10, ↓ixB34, ↓ixB42]
        by_cases z : nesc s.data.toList = 0
        · rw [decide_eq_false (Decidable.not_not.2 z)]
          simp (disch := omega) only [↓sxA, ↓wk_store, sxB, sxP, Nat.reduceLeDiff, reduceCtorEq, Nat.reduceEqDiff, Nat.reduceAdd, Int.reduceLT, Int.reduceLE, Int.reduceEq, Nat.reduceLT, Int.reduceToNat, Int.reduceAdd, Int.reduceSub, ↓reduceIte, nthK_tab, nthK_tabL, tabR_len, Nat.zero_add, Nat.reduceMul, Int.reduceToNat, szB1, szB2, Int.cast_ofNat_Int, ↓ixB10, ↓ixB34, ↓ixB42]
          have := h _ (Frm.refl _)
          rw [escL_none _ z, bs_of] at this
          exact this
        rw [decide_eq_true z]
        simp (disch := omega) only [↓sxA, ↓wk_store, sxB, sxP, Nat.reduceLeDiff, reduceCtorEq, Nat.reduceEqDiff, Nat.reduceAdd, Int.reduceLT, Int.reduceLE, Int.reduceEq, Nat.reduceLT, Int.reduceToNat, Int.reduceAdd, Int.reduceSub, ↓reduceIte, nthK_tab, nthK_tabL, tabR_len, Nat.zero_add, Nat.reduceMul, Int.reduceToNat, szB1, szB2, Int.cast_ofNat_Int, ↓ixB10, ↓ixB34, ↓ixB42]
        rw [wk_mkU _ (by omega)]
        have F1 := Frm.new st' (.row ((List.replicate (s.size + nesc s.data.toList) (0 : UInt8)).map u8v) 0 false)
        have g1 := get_new_same st' (.row ((List.replicate (s.size + nesc s.data.toList) (0 : UInt8)).map u8v) 0 false)
        have n1 : (st'.new (.row ((List.replicate (s.size + nesc s.data.toList) (0 : UInt8)).map u8v) 0 false)).next = st'.next + 1 := rfl
        generalize st'.new _ = s1 at F1 g1 n1 ⊢
        simp (disch := omega) only [↓sxA, ↓wk_store, sxB, sxP, Nat.reduceLeDiff, reduceCtorEq, Nat.reduceEqDiff, Nat.reduceAdd, Int.reduceLT, Int.reduceLE, Int.reduceEq, Nat.reduceLT, Int.reduceToNat, Int.reduceAdd, Int.reduceSub, ↓reduceIte, nthK_tab, nthK_tabL, tabR_len, Nat.zero_add, Nat.reduceMul, Int.reduceToNat, szB1, szB2, Int.cast_ofNat_Int, ↓ixB10, ↓ixB34, ↓ixB42]
        have hEL := escL_len s.data.toList
        refine loop_rule [0, 1, 12, 13, 14] (fun vs s2 => ∃ i : Nat, i ≤ s.size ∧ vs = [.pointer (some ⟨t, 0, none⟩), .string s, .slice (some ⟨st'.next, 0, none⟩) (s.size + nesc s.data.toList) (s.size + nesc s.data.toList), .int .i64 ((escL (s.data.toList.take i)).length : Nat), .int .i64 i] ∧ Frm st' s2 ∧ st'.next < s2.next ∧ ∃ z, s2.get st'.next = some (.row ((escL (s.data.toList.take i) ++ z).map u8v) 0 false) ∧ (escL (s.data.toList.take i)).length + z.length = s.size + nesc s.data.toList) (fun vs _ => match lget vs 4 with
            | .int _ k => ((s.size : Int) - k).toNat
            | _ => 0) ?_ ?_ ?_
        · rfl
        · refine ⟨_, rfl, ⟨0, Nat.zero_le _, rfl, F1, by omega, _, g1, by simp [escL]⟩, ?_⟩
          show ((s.size : Int) - 0).toNat < 100000
          omega
        · rintro vs s2 ⟨i, hi, rfl, F2, n2, z, g2, hz⟩
          show sx _ _ _ _ _ [(0, _), (1, _), (12, _), (13, _), (14, _)] _ _ _ _
          by_cases hj : i < s.size
          · obtain ⟨c, hc, hg, hb'⟩ := byte_at s i hj
            have hrow2 := (F2.old t hR.tn).trans hrow
            have et := escL_take _ _ _ hc
            have el := escL_take_le s.data.toList (i + 1)
            rw [et, List.length_append] at el
            cases hcE : isE c with
            | true =>
              obtain ⟨a, ga, hf, ha1, ha2, hga⟩ := hE c (isE_iff.1 hcE)
              have e2 := escB_e hcE
              have hga2 := (F2.old a ha2).trans hga
              simp (disch := omega) only [q_indexStr, Int.toNat_natCast, hg, ↓sxA, sxB, sxP, Nat.reduceLeDiff, reduceCtorEq, Nat.reduceEqDiff, Nat.reduceAdd, Int.reduceLT, Int.reduceLE, Int.reduceEq, Nat.reduceLT, Int.reduceToNat, Int.reduceAdd, Int.reduceSub, ↓reduceIte, hrow2, nthK_tab, Nat.zero_add, Nat.mul_one, hf]
              rw [rk_slLo g2 (.inl rfl) (by rw [List.length_append, hz]) _ (by omega)]
              simp (disch := omega) only [q_indexStr, Int.toNat_natCast, hg, ↓sxA, sxB, sxP, Nat.reduceLeDiff, reduceCtorEq, Nat.reduceEqDiff, Nat.reduceAdd, Int.reduceLT, Int.reduceLE, Int.reduceEq, Nat.reduceLT, Int.reduceToNat, Int.reduceAdd, Int.reduceSub, ↓reduceIte, hrow2, nthK_tab, Nat.zero_add, Nat.mul_one, hf]
              refine ⟨⟨by omega, by omega⟩, ⟨by omega, by omega⟩, ?_⟩
              refine wk_copyB g2 hga2 e2 ?_ ?_ ?_
              · omega
              · rw [List.length_map, List.length_append]; omega
              rw [lputs_u8 rfl (by omega), ← et]
              have g3 := get_put_same s2 st'.next (some (.row ((escL (s.data.toList.take (i + 1)) ++ z.drop (escB c).length).map u8v) 0 false))
              have F3 := F2.put st'.next (Nat.le_refl _) (some (.row ((escL (s.data.toList.take (i + 1)) ++ z.drop (escB c).length).map u8v) 0 false))
              have n3 : (s2.put st'.next (some (.row ((escL (s.data.toList.take (i + 1)) ++ z.drop (escB c).length).map u8v) 0 false))).next = s2.next := rfl
              generalize s2.put _ _ = s3 at g3 F3 n3 ⊢
              simp (disch := omega) only [↓sxA, sxB, sxP, Nat.reduceLeDiff, reduceCtorEq, Nat.reduceEqDiff, Nat.reduceAdd, Int.reduceLT, Int.reduceLE, Int.reduceEq, Nat.reduceLT, Int.reduceToNat, Int.reduceAdd, Int.reduceSub, ↓reduceIte]
              refine ⟨_, rfl, ⟨i + 1, hj, ?_, F3, by omega, _, g3, by rw [et, List.length_append, List.length_drop]; omega⟩, ?_⟩
              · rw [et, List.length_append, e2]; simp
              · show ((s.size : Int) - ((i : Int) + 1)).toNat < ((s.size : Int) - i).toNat
                omega
            | false =>
              have e1 := escB_n hcE
              have hnE : ¬ (c = 10 ∨ c = 34 ∨ c = 42) := fun hh => by rw [isE_iff.2 hh] at hcE; cases hcE
              have hf := hN c (fun e => hnE (.inl e)) (fun e => hnE (.inr (.inl e))) (fun e => hnE (.inr (.inr e)))
              simp (disch := omega) only [q_indexStr, Int.toNat_natCast, hg, ↓sxA, sxB, sxP, Nat.reduceLeDiff, reduceCtorEq, Nat.reduceEqDiff, Nat.reduceAdd, Int.reduceLT, Int.reduceLE, Int.reduceEq, Nat.reduceLT, Int.reduceToNat, Int.reduceAdd, Int.reduceSub, ↓reduceIte, hrow2, nthK_tab, Nat.zero_add, Nat.mul_one, hf]
              have l1 : (escB c).length = 1 := by rw [e1]; rfl
              refine ⟨⟨by omega, by omega⟩, ⟨by omega, by omega⟩, ?_⟩
              rw [wk_store, g2]
              simp only [getK, rowK, cells_int]
              refine ⟨rfl, ⟨by first | trivial | rfl, by rw [List.length_map, List.length_append]; omega, rfl⟩, ?_⟩
              have lp := lputs_u8 (a := escL (s.data.toList.take i)) (z := z) (x := [c]) rfl (by simp; omega)
              rw [show [Value.int .u8 (c.toNat : Int)] = [c].map u8v from rfl, lp, ← e1, ← et]
              have g3 := get_put_same s2 st'.next (some (.row ((escL (s.data.toList.take (i + 1)) ++ z.drop (escB c).length).map u8v) 0 false))
              have F3 := F2.put st'.next (Nat.le_refl _) (some (.row ((escL (s.data.toList.take (i + 1)) ++ z.drop (escB c).length).map u8v) 0 false))
              have n3 : (s2.put st'.next (some (.row ((escL (s.data.toList.take (i + 1)) ++ z.drop (escB c).length).map u8v) 0 false))).next = s2.next := rfl
              generalize s2.put _ _ = s3 at g3 F3 n3 ⊢
              simp (disch := omega) only [↓sxA, sxB, sxP, Nat.reduceLeDiff, reduceCtorEq, Nat.reduceEqDiff, Nat.reduceAdd, Int.reduceLT, Int.reduceLE, Int.reduceEq, Nat.reduceLT, Int.reduceToNat, Int.reduceAdd, Int.reduceSub, ↓reduceIte]
              refine ⟨_, rfl, ⟨i + 1, hj, ?_, F3, by omega, _, g3, by rw [et, List.length_append, List.length_drop]; omega⟩, ?_⟩
              · rw [et, List.length_append, l1]; simp
              · show ((s.size : Int) - ((i : Int) + 1)).toNat < ((s.size : Int) - i).toNat
                omega
          · have e : s.data.toList.take i = s.data.toList := List.take_of_length_le (by omega)
            rw [e] at g2 hz
            have z0 : z = [] := List.eq_nil_of_length_eq_zero (by omega)
            subst z0
            rw [List.append_nil] at g2
            simp (disch := omega) only [↓sxA, sxB, sxP, Nat.reduceLeDiff, reduceCtorEq, Nat.reduceEqDiff, Nat.reduceAdd, Int.reduceLT, Int.reduceLE, Int.reduceEq, Nat.reduceLT, Int.reduceToNat, Int.reduceAdd, Int.reduceSub, ↓reduceIte]
            rw [rk_toStr (l := escL s.data.toList) g2 (by rw [List.drop_zero, List.take_of_length_le (by rw [List.length_map]; omega)]) (by rw [List.length_map]; omega)]
            simp (disch := omega) only [↓sxA, sxB, sxP, Nat.reduceLeDiff, reduceCtorEq, Nat.reduceEqDiff, Nat.reduceAdd, Int.reduceLT, Int.reduceLE, Int.reduceEq, Nat.reduceLT, Int.reduceToNat, Int.reduceAdd, Int.reduceSub, ↓reduceIte]
            exact h _ F2
end

/-! behind the walk -/
section
variable {st : St} {K : Value → St → Prop}
theorem kDo (n : Nat) {p b : Nat} {g' : Nat} {ro' : Bool} (hp : st.get p = some (.row (repRow b) 0 false)) (hb : st.get b = some (.row six g' ro')) (hpl : p < st.next) (hbl : b < st.next) (hpb : b ≠ p)
    (h : ∀ st' t, RepF st.next st' t → st.next ≤ st'.next → (∀ i, i ≠ p → i < st.next → st'.get i = st.get i) → st'.get p = some (.row [.int .u32 1, .int .i32 0, .int .u32 0, .iface 211 (.pointer (some ⟨t, 0, none⟩)), .slice none 0 0] 0 false) → K (.tuple #[]) st') :
    callK (callO T0 orc fns 100000 (n + 4)) 116 [.pointer (some ⟨p, 0, none⟩), .func (.func 117) #[.pointer (some ⟨p, 0, none⟩)] #[]] st K := by
  refine fn_runs (fn := g116) ?_ ?_ ?_
  · rfl
  · rfl
  unfold g116
  simp (disch := omega) only [↓sxA, ↓wk_store, sxB, sxP, Nat.reduceLeDiff, reduceCtorEq, Nat.reduceEqDiff, Nat.reduceAdd, Int.reduceLT, Int.reduceLE, Int.reduceEq, Nat.reduceLT, Int.reduceToNat, Int.reduceAdd, Int.reduceSub, ↓reduceIte]
  refine kLoad (n + 3) hp rfl ?_
  rw [show ((0 : Int) != 0) = false from rfl]
  simp (disch := omega) only [↓sxA, ↓wk_store, sxB, sxP, Nat.reduceLeDiff, reduceCtorEq, Nat.reduceEqDiff, Nat.reduceAdd, Int.reduceLT, Int.reduceLE, Int.reduceEq, Nat.reduceLT, Int.reduceToNat, Int.reduceAdd, Int.reduceSub, ↓reduceIte]
  refine kDoSlow n hp hb hpl hbl hpb fun st' t h1 h2 h3 h4 => ?_
  simp (disch := omega) only [↓sxA, ↓wk_store, sxB, sxP, Nat.reduceLeDiff, reduceCtorEq, Nat.reduceEqDiff, Nat.reduceAdd, Int.reduceLT, Int.reduceLE, Int.reduceEq, Nat.reduceLT, Int.reduceToNat, Int.reduceAdd, Int.reduceSub, ↓reduceIte]
  exact h st' t h1 h2 h3 h4

theorem kReplace (n : Nat) {p b : Nat} (s : ByteArray) (hs : s.size ≤ 40000) {g' : Nat} {ro' : Bool} (hp : st.get p = some (.row (repRow b) 0 false)) (hb : st.get b = some (.row six g' ro')) (hpl : p < st.next) (hbl : b < st.next) (hpb : b ≠ p)
    (h : ∀ st', st.next ≤ st'.next → (∀ i, i ≠ p → i < st.next → st'.get i = st.get i) → K (.string (bs (escL s.data.toList))) st') :
    callK (callO T0 orc fns 100000 (n + 5)) 85 [.pointer (some ⟨p, 0, none⟩), .string s] st K := by
  refine fn_runs (fn := g85) ?_ ?_ ?_
  · rfl
  · rfl
  unfold g85
  simp (disch := omega) only [↓sxA, ↓wk_store, sxB, sxP, Nat.reduceLeDiff, reduceCtorEq, Nat.reduceEqDiff, Nat.reduceAdd, Int.reduceLT, Int.reduceLE, Int.reduceEq, Nat.reduceLT, Int.reduceToNat, Int.reduceAdd, Int.reduceSub, ↓reduceIte, List.take_succ_cons, List.take_zero]
  refine kDo n hp hb hpl hbl hpb fun s1 t h1 h2 h3 h4 => ?_
  have iv := fun (vs : List Value) (s : St) (W : Value → St → Prop) => opK_invoke (T := T0) (F := callO T0 orc fns 100000 (n + 4)) (s := s) "Replace" 211 (.pointer (some ⟨t, 0, none⟩)) vs 225 W rfl
  simp (disch := omega) only [↓sxA, ↓wk_store, sxB, sxP, Nat.reduceLeDiff, reduceCtorEq, Nat.reduceEqDiff, Nat.reduceAdd, Int.reduceLT, Int.reduceLE, Int.reduceEq, Nat.reduceLT, Int.reduceToNat, Int.reduceAdd, Int.reduceSub, ↓reduceIte, h4, ↓iv]
  refine kRepl (n + 3) s hs h1 h2 fun s2 F2 => ?_
  simp (disch := omega) only [↓sxA, ↓wk_store, sxB, sxP, Nat.reduceLeDiff, reduceCtorEq, Nat.reduceEqDiff, Nat.reduceAdd, Int.reduceLT, Int.reduceLE, Int.reduceEq, Nat.reduceLT, Int.reduceToNat, Int.reduceAdd, Int.reduceSub, ↓reduceIte]
  exact h s2 (Nat.le_trans h2 F2.nx) fun i hi hl => (F2.old i (by omega)).trans (h3 i hi hl)

theorem kEscaped (n : Nat) (s : ByteArray) (hs : s.size ≤ 40000) (h : ∀ st', Frm st st' → K (.string (bs (34 :: (escL s.data.toList ++ [34])))) st') :
    callK (callO T0 orc fns 100000 (n + 6)) 50 [.string s] st K := by
  refine fn_runs (fn := g50) ?_ ?_ ?_
  · rfl
  · rfl
  unfold g50
  simp (disch := omega) only [↓sxA, ↓wk_store, sxB, sxP, Nat.reduceLeDiff, reduceCtorEq, Nat.reduceEqDiff, Nat.reduceAdd, Int.reduceLT, Int.reduceLE, Int.reduceEq, Nat.reduceLT, Int.reduceToNat, Int.reduceAdd, Int.reduceSub, ↓reduceIte]
  have F1 := Frm.new st (.row [.string ⟨#[42]⟩, .string ⟨#[42, 42]⟩, .string ⟨#[34]⟩, .string ⟨#[42, 34]⟩, .string ⟨#[10]⟩, .string ⟨#[42, 110]⟩] 0 false)
  have g1 : (st.new (.row [.string ⟨#[42]⟩, .string ⟨#[42, 42]⟩, .string ⟨#[34]⟩, .string ⟨#[42, 34]⟩, .string ⟨#[10]⟩, .string ⟨#[42, 110]⟩] 0 false)).get st.next = some (.row six 0 false) := get_new_same _ _
  have n1 : (st.new (.row [.string ⟨#[42]⟩, .string ⟨#[42, 42]⟩, .string ⟨#[34]⟩, .string ⟨#[42, 34]⟩, .string ⟨#[10]⟩, .string ⟨#[42, 110]⟩] 0 false)).next = st.next + 1 := rfl
  generalize st.new _ = s1 at F1 g1 n1 ⊢
  refine kNewRep (n + 4) g1 (by omega) fun s2 F2 n2 hp hb => ?_
  simp (disch := omega) only [↓sxA, ↓wk_store, sxB, sxP, Nat.reduceLeDiff, reduceCtorEq, Nat.reduceEqDiff, Nat.reduceAdd, Int.reduceLT, Int.reduceLE, Int.reduceEq, Nat.reduceLT, Int.reduceToNat, Int.reduceAdd, Int.reduceSub, ↓reduceIte]
  refine kReplace n s hs hp hb (by omega) (by omega) (by omega) fun s3 nx o3 => ?_
  simp (disch := omega) only [↓sxA, ↓wk_store, sxB, sxP, Nat.reduceLeDiff, reduceCtorEq, Nat.reduceEqDiff, Nat.reduceAdd, Int.reduceLT, Int.reduceLE, Int.reduceEq, Nat.reduceLT, Int.reduceToNat, Int.reduceAdd, Int.reduceSub, ↓reduceIte]
  have F3 : Frm st s3 := ⟨by have := F1.nx; have := F2.nx; omega, fun i hi => by
    rw [o3 i (by omega) (by omega), F2.old i (by omega), F1.old i hi]⟩
  have e : bs (34 :: (escL s.data.toList ++ [34])) = ((⟨#[34]⟩ : ByteArray) ++ bs (escL s.data.toList)) ++ (⟨#[34]⟩ : ByteArray) := by
    refine ByteArray.ext ?_
    simp [bs, ByteArray.data_append]
  rw [e] at h
  have hl := escL_len s.data.toList
  have hl2 := nesc_le s.data.toList
  have hl3 := size_list s
  have hbs : (bs (escL s.data.toList)).size = (escL s.data.toList).length := by simp [bs, ByteArray.size]
  refine ⟨?_, ?_, h s3 F3⟩
  · rw [szB1, hbs]; omega
  · rw [ByteArray.size_append, szB1, hbs]; omega
end
end Go.Proofs.YtdmemibnphcedaaGreatDoor
end
section
set_option linter.unusedSimpArgs false
set_option linter.unusedVariables false
set_option maxRecDepth 10000
set_option linter.unusedSectionVars false
namespace Go.Proofs.YtdmemibnphcedaaGreatDoor
open Go.Am

/-- bytes that no word has become question marks -/
def qB (c : UInt8) : UInt8 := if c = 10 ∨ prn c = true then c else 63
/-- bytes that want quotes -/
def spc (c : UInt8) : Bool := [32, 34, 61, 42, 10].contains c
def quoteL (l : List UInt8) : List UInt8 := if l ≠ [] ∧ (l.map qB).any spc = false then l.map qB else 34 :: (escL (l.map qB) ++ [34])

theorem qB_keep {c : UInt8} (h : c.toNat = 10 ∨ (32 ≤ c.toNat ∧ c.toNat ≤ 126)) : qB c = c := by
  unfold qB
  rw [if_pos]
  rcases h with h | h
  · exact .inl (UInt8.toNat.inj h)
  · right; simp [prn, h]
theorem qB_q {c : UInt8} (h1 : c.toNat ≠ 10) (h2 : c.toNat < 32 ∨ 126 < c.toNat) : qB c = 63 := by
  unfold qB
  rw [if_neg]
  rintro (h | h)
  · exact h1 (by rw [h]; rfl)
  · simp [prn] at h; omega
theorem qB_ascii (c : UInt8) : (qB c).toNat < 128 := by
  by_cases h : c.toNat = 10 ∨ (32 ≤ c.toNat ∧ c.toNat ≤ 126)
  · rw [qB_keep h]; omega
  · rw [qB_q (by omega) (by omega)]; decide

theorem size_bsl (l : List UInt8) : (bs l).size = l.length := by simp [bs, ByteArray.size]
theorem contAny_any (cs : List UInt8) : ∀ l : List UInt8, Lib.containsAny l cs = l.any cs.contains
  | [] => rfl
  | b :: l => by
    have ih := contAny_any cs l
    have hg := Lib.indexAny_ge cs l
    unfold Lib.containsAny at ih ⊢
    have e : Lib.indexAny (b :: l) cs = if cs.contains b then 0 else if Lib.indexAny l cs == -1 then -1 else Lib.indexAny l cs + 1 := rfl
    rw [List.any_cons, ← ih, e]
    cases hb : cs.contains b with
    | true => simp
    | false =>
      simp only [Bool.false_eq_true, if_false, Bool.false_or, beq_iff_eq]
      by_cases h1 : Lib.indexAny l cs = -1
      · rw [if_pos h1, h1]
      · rw [if_neg h1]
        rw [decide_eq_true (show 0 ≤ Lib.indexAny l cs + 1 by omega), decide_eq_true (show 0 ≤ Lib.indexAny l cs by omega)]

attribute [local irreducible] callO wopK ropK popK opK grpsE listE sx Runs

section
variable {st : St} {K : Value → St → Prop}

theorem kContAny (n : Nat) (l : List UInt8) (hl : l.length ≤ 40000) (ha : ∀ c ∈ l, c.toNat < 128) (h : K (.bool (l.any spc)) st) : callK (callO T0 orc fns 100000 n) 49 [.string (bs l), .string ⟨#[32, 34, 61, 42, 10]⟩] st K := by
  rw [callO_none (by rfl)]
  have hbs : (bs l).size = l.length := by simp [bs, ByteArray.size]
  have h1 : (bs l).size < 4294967281 := by omega
  have h2 : asciiB (bs l) = true := by
    unfold asciiB
    rw [List.all_eq_true]
    exact fun c hc => decide_eq_true (ha c (by simpa [bs] using hc))
  have h3 : asciiB (⟨#[32, 34, 61, 42, 10]⟩ : ByteArray) = true := by decide +kernel
  have h4 : (⟨#[32, 34, 61, 42, 10]⟩ : ByteArray).size < 4294967281 := by decide
  have e : orc 49 [.string (bs l), .string ⟨#[32, 34, 61, 42, 10]⟩] st = .ret (.bool (l.any spc), st) := by
    rw [orc_eq (by decide)]
    unfold orc1
    simp only [Nat.reduceEqDiff, if_false, if_true]
    rw [if_pos ⟨h1, h4, h2, h3⟩, contAny_any]
    rfl
  exact (propext (callK_ret (K := K) e)).mpr h

theorem kQuote (n : Nat) (s : ByteArray) (hs : s.size ≤ 40000) (h : ∀ st', Frm st st' → K (.string (bs (quoteL s.data.toList))) st') :
    callK (callO T0 orc fns 100000 (n + 7)) 26 [.string s] st K := by
  refine fn_runs (fn := g26) ?_ ?_ ?_
  · rfl
  · rfl
  unfold g26
  have hsz := size_list s
  simp (disch := omega) only [↓sxA, ↓wk_store, sxB, sxP, Nat.reduceLeDiff, reduceCtorEq, Nat.reduceEqDiff, Nat.reduceAdd, Int.reduceLT, Int.reduceLE, Int.reduceEq, Nat.reduceLT, Int.reduceToNat, Int.reduceAdd, Int.reduceSub, ↓reduceIte]
  refine loop_rule [3, 8, 9, 10] (fun vs s' => ∃ j : Nat, vs = [.slice (some ⟨st.next, 0, none⟩) s.size s.size, .slice (some ⟨st.next, 0, none⟩) s.size s.size, .int .i64 (s.size : Nat), .int .i64 (j : Nat)] ∧ j ≤ s.size ∧ s'.next = st.next + 1 ∧ (∀ i, i < st.next → s'.get i = st.get i) ∧ s'.get st.next = some (.row (((s.data.toList.take j).map qB ++ s.data.toList.drop j).map u8v) 1 false)) (fun vs _ => match lget vs 3 with
      | .int _ k => ((s.size : Int) - k).toNat
      | _ => 0) ?_ ?_ ?_
  · rfl
  · refine ⟨_, rfl, ⟨0, rfl, Nat.zero_le _, rfl, fun i hi => get_new_ne _ _ _ (by omega), get_new_same _ _⟩, ?_⟩
    show ((s.size : Int) - 0).toNat < 100000
    omega
  · rintro vs s' ⟨j, rfl, j1, hn, hf, hg⟩
    show sx _ _ _ _ _ [(3, _), (8, _), (9, _), (10, _)] _ _ _ _
    have F : Frm st s' := ⟨by omega, hf⟩
    by_cases hj : j < s.size
    · obtain ⟨c, hc, hgd, hb⟩ := byte_at s j hj
      have hlj : ((s.data.toList.take j).map qB).length = j := by rw [List.length_map, List.length_take]; omega
      have hcj : (((s.data.toList.take j).map qB ++ s.data.toList.drop j).map u8v)[j]? = some (.int .u8 (c.toNat : Int)) := by
        rw [List.getElem?_map, List.getElem?_append_right (by omega), hlj, List.getElem?_drop, Nat.sub_self, Nat.add_zero, hc]; rfl
      have hdrop : s.data.toList.drop j = c :: s.data.toList.drop (j + 1) := by
        obtain ⟨h1, h2⟩ := List.getElem?_eq_some_iff.1 hc
        rw [List.drop_eq_getElem_cons h1, h2]
      have htake : s.data.toList.take (j + 1) = s.data.toList.take j ++ [c] := by rw [List.take_add_one, hc]; rfl
      have ix : ∀ K : Value → Prop, popK (.indexAddr 1) [.slice (some ⟨st.next, 0, none⟩) s.size s.size, .int .i64 (j : Int)] K = K (.pointer (some ⟨st.next, j, none⟩)) := fun K => by
        rw [pk_indexAddr]
        have e : (0 : Nat) + (j : Int).toNat * 1 = j := by omega
        rw [e]
        exact propext ⟨fun h => h.2, fun h => ⟨⟨by omega, by omega⟩, h⟩⟩
      have ld : ∀ K : Value → Prop, ropK .load1 [.pointer (some ⟨st.next, j, none⟩)] s' K = K (.int .u8 (c.toNat : Int)) := fun K => by
        rw [rk_load1, hg]
        simp only [getK, rowK]
        exact nthK_at hcj K
      have keepRow : qB c = c → (((s.data.toList.take (j + 1)).map qB ++ s.data.toList.drop (j + 1)).map u8v) = (((s.data.toList.take j).map qB ++ s.data.toList.drop j).map u8v) := fun e => by
        rw [htake, hdrop, List.map_append (f := qB), List.append_assoc]
        simp only [List.map_cons, List.map_nil, e, List.singleton_append]
      have hmeas : ((s.size : Int) - ((j : Int) + 1)).toNat < ((s.size : Int) - j).toNat := by omega
      have bad : qB c = 63 → ∀ W : Value → St → Prop, wopK (.store 1) [.pointer (some ⟨st.next, j, none⟩), .int .u8 63] s' W = W undef (s'.put st.next (some (.row (((s.data.toList.take (j + 1)).map qB ++ s.data.toList.drop (j + 1)).map u8v) 1 false))) := fun e W => by
        have hl : j < (((s.data.toList.take j).map qB ++ s.data.toList.drop j).map u8v).length := by
          rw [List.length_map, List.length_append, hlj, List.length_drop]; omega
        have hrow : lputs (((s.data.toList.take j).map qB ++ s.data.toList.drop j).map u8v) j [.int .u8 63] = (((s.data.toList.take (j + 1)).map qB ++ s.data.toList.drop (j + 1)).map u8v) := by
          rw [htake, hdrop]
          simp only [List.map_append, List.map_cons, List.map_nil, List.append_assoc, List.singleton_append, e]
          unfold lputs
          have e1 : ((s.data.toList.take j).map qB |>.map u8v).length = j := by rw [List.length_map]; exact hlj
          rw [List.take_left' e1, ← List.drop_drop, List.drop_left' e1]
          simp
          rfl
        rw [wk_store, hg]
        simp only [getK, rowK]
        rw [show cellsOf (.int .u8 63) = [.int .u8 63] from rfl, hrow]
        exact propext ⟨fun h => h.2.2, fun h => ⟨rfl, ⟨by first | trivial | rfl, by omega, by rfl⟩, h⟩⟩
      simp (disch := omega) only [↓sxA, sxB, sxP, Nat.reduceLeDiff, reduceCtorEq, Nat.reduceEqDiff, Nat.reduceAdd, Int.reduceLT, Int.reduceLE, Int.reduceEq, Nat.reduceLT, Int.reduceToNat, Int.reduceAdd, Int.reduceSub, ↓reduceIte, ↓ix, ↓ld]
      have keep : qB c = c → ∃ j_1 : Nat, [Value.slice (some ⟨st.next, 0, none⟩) s.size s.size, .slice (some ⟨st.next, 0, none⟩) s.size s.size, .int .i64 (s.size : Nat), .int .i64 ((j : Int) + 1)] = [.slice (some ⟨st.next, 0, none⟩) s.size s.size, .slice (some ⟨st.next, 0, none⟩) s.size s.size, .int .i64 (s.size : Nat), .int .i64 (j_1 : Nat)] ∧ j_1 ≤ s.size ∧ s'.next = st.next + 1 ∧ (∀ i, i < st.next → s'.get i = st.get i) ∧ s'.get st.next = some (.row (((s.data.toList.take j_1).map qB ++ s.data.toList.drop j_1).map u8v) 1 false) := fun e => ⟨j + 1, by simp, hj, hn, hf, by rw [keepRow e]; exact hg⟩
      refine iteI (fun c1 => ?_) (fun c1 => iteI (fun c2 => ?_) (fun c2 => iteI (fun c3 => ?_) (fun c3 => ?_)))
      · exact ⟨_, rfl, keep (qB_keep (.inl (by omega))), hmeas⟩
      · have bw := bad (qB_q (by omega) (by omega))
        simp (disch := omega) only [↓sxA, sxB, sxP, Nat.reduceLeDiff, reduceCtorEq, Nat.reduceEqDiff, Nat.reduceAdd, Int.reduceLT, Int.reduceLE, Int.reduceEq, Nat.reduceLT, Int.reduceToNat, Int.reduceAdd, Int.reduceSub, ↓reduceIte, ↓ix, ↓bw]
        exact ⟨_, rfl, ⟨j + 1, by simp, hj, hn, fun i hi => (get_put_ne _ _ _ _ (by omega)).trans (hf i hi), by first | rfl | exact get_put_same _ _ _⟩, hmeas⟩
      · have bw := bad (qB_q (by omega) (by omega))
        simp (disch := omega) only [↓sxA, sxB, sxP, Nat.reduceLeDiff, reduceCtorEq, Nat.reduceEqDiff, Nat.reduceAdd, Int.reduceLT, Int.reduceLE, Int.reduceEq, Nat.reduceLT, Int.reduceToNat, Int.reduceAdd, Int.reduceSub, ↓reduceIte, ↓ix, ↓bw]
        exact ⟨_, rfl, ⟨j + 1, by simp, hj, hn, fun i hi => (get_put_ne _ _ _ _ (by omega)).trans (hf i hi), by first | rfl | exact get_put_same _ _ _⟩, hmeas⟩
      · exact ⟨_, rfl, keep (qB_keep (.inr (by omega))), hmeas⟩
    · have e1 : s.data.toList.take j = s.data.toList := List.take_of_length_le (by omega)
      have e2 : s.data.toList.drop j = [] := List.drop_eq_nil_of_le (by omega)
      rw [e1, e2, List.append_nil] at hg
      have rs : ∀ K : Value → Prop, ropK .bytesToStr [.slice (some ⟨st.next, 0, none⟩) s.size s.size] s' K = K (.string (bs (s.data.toList.map qB))) := fun K => rk_toStr (K := K) (b := st.next) (o := 0) (n := s.size) (cap := s.size) hg (l := s.data.toList.map qB) (by rw [List.drop_zero, List.take_of_length_le (by simp)]) (by simp)
      have hmA : ∀ c ∈ s.data.toList.map qB, c.toNat < 128 := fun c hc => by
        obtain ⟨d, _, rfl⟩ := List.mem_map.1 hc
        exact qB_ascii d
      by_cases h0 : s.data.toList = []
      · have e0 : (bs (s.data.toList.map qB) = ByteArray.empty) = True := by rw [h0]; exact eq_true rfl
        simp (disch := omega) only [↓sxA, ↓wk_store, sxB, sxP, Nat.reduceLeDiff, reduceCtorEq, Nat.reduceEqDiff, Nat.reduceAdd, Int.reduceLT, Int.reduceLE, Int.reduceEq, Nat.reduceLT, Int.reduceToNat, Int.reduceAdd, Int.reduceSub, ↓reduceIte]
        rw [rs]
        simp (disch := omega) only [↓sxA, ↓wk_store, sxB, sxP, Nat.reduceLeDiff, reduceCtorEq, Nat.reduceEqDiff, Nat.reduceAdd, Int.reduceLT, Int.reduceLE, Int.reduceEq, Nat.reduceLT, Int.reduceToNat, Int.reduceAdd, Int.reduceSub, ↓reduceIte]
        rw [if_pos (of_eq_true e0)]
        refine kEscaped n _ (by rw [size_bsl, List.length_map]; omega) fun s2 F2 => ?_
        simp (disch := omega) only [↓sxA, ↓wk_store, sxB, sxP, Nat.reduceLeDiff, reduceCtorEq, Nat.reduceEqDiff, Nat.reduceAdd, Int.reduceLT, Int.reduceLE, Int.reduceEq, Nat.reduceLT, Int.reduceToNat, Int.reduceAdd, Int.reduceSub, ↓reduceIte]
        have := h s2 (F.trans F2)
        unfold quoteL at this
        rw [if_neg (by simp [h0])] at this
        exact this
      have e0 : (bs (s.data.toList.map qB) = ByteArray.empty) = False := eq_false fun e => h0 (by
        have := congrArg (fun b : ByteArray => b.data.toList) e
        simpa [bs] using this)
      simp (disch := omega) only [↓sxA, ↓wk_store, sxB, sxP, Nat.reduceLeDiff, reduceCtorEq, Nat.reduceEqDiff, Nat.reduceAdd, Int.reduceLT, Int.reduceLE, Int.reduceEq, Nat.reduceLT, Int.reduceToNat, Int.reduceAdd, Int.reduceSub, ↓reduceIte]
      rw [rs]
      simp (disch := omega) only [↓sxA, ↓wk_store, sxB, sxP, Nat.reduceLeDiff, reduceCtorEq, Nat.reduceEqDiff, Nat.reduceAdd, Int.reduceLT, Int.reduceLE, Int.reduceEq, Nat.reduceLT, Int.reduceToNat, Int.reduceAdd, Int.reduceSub, ↓reduceIte]
      rw [if_neg (of_eq_false e0)]
      refine kContAny (n + 6) _ (by simp; omega) hmA ?_
      cases hq : (s.data.toList.map qB).any spc with
      | false =>
        simp (disch := omega) only [↓sxA, ↓wk_store, sxB, sxP, Nat.reduceLeDiff, reduceCtorEq, Nat.reduceEqDiff, Nat.reduceAdd, Int.reduceLT, Int.reduceLE, Int.reduceEq, Nat.reduceLT, Int.reduceToNat, Int.reduceAdd, Int.reduceSub, ↓reduceIte, Bool.not_false, Bool.not_true]
        have := h _ F
        unfold quoteL at this
        rw [if_pos ⟨h0, hq⟩] at this
        exact this
      | true =>
        simp (disch := omega) only [↓sxA, ↓wk_store, sxB, sxP, Nat.reduceLeDiff, reduceCtorEq, Nat.reduceEqDiff, Nat.reduceAdd, Int.reduceLT, Int.reduceLE, Int.reduceEq, Nat.reduceLT, Int.reduceToNat, Int.reduceAdd, Int.reduceSub, ↓reduceIte, Bool.not_false, Bool.not_true]
        refine kEscaped n _ (by rw [size_bsl, List.length_map]; omega) fun s2 F2 => ?_
        simp (disch := omega) only [↓sxA, ↓wk_store, sxB, sxP, Nat.reduceLeDiff, reduceCtorEq, Nat.reduceEqDiff, Nat.reduceAdd, Int.reduceLT, Int.reduceLE, Int.reduceEq, Nat.reduceLT, Int.reduceToNat, Int.reduceAdd, Int.reduceSub, ↓reduceIte]
        have := h s2 (F.trans F2)
        unfold quoteL at this
        rw [if_neg (by simp [hq])] at this
        exact this
end
end Go.Proofs.YtdmemibnphcedaaGreatDoor
end
section
set_option linter.unusedSimpArgs false
set_option linter.unusedVariables false
set_option maxRecDepth 10000
set_option linter.unusedSectionVars false
namespace Go.Proofs.YtdmemibnphcedaaGreatDoor
open Go.Am

/-- bytes that grow, or the ones that were laid first -/
def GQ (st : St) (v : Value) (l : List UInt8) : Prop := Gro st v l ∨ ∃ b, v = .slice (some ⟨b, 0, none⟩) l.length l.length ∧ st.get b = some (.row (l.map u8v) 0 false) ∧ l ≠ []

section
variable {st st' : St} {v u : Value} {l m : List UInt8}
theorem GQ.bys (h : GQ st v l) : Bys st v l := by
  rcases h with h | ⟨b, h1, h2, h3⟩
  · exact h.bys
  · exact .inr (.inl ⟨b, 0, l.length, l.map u8v, 0, false, h1, Nat.le_refl _, h2, .inl rfl, by simp, by rw [List.drop_zero, List.take_of_length_le (by simp)]⟩)
theorem GQ.keep (h : GQ st v l) (hb : ∀ i, i + 1 = ow v → st'.get i = st.get i) : GQ st' v l := by
  rcases h with h | ⟨b, h1, h2, h3⟩
  · exact .inl (h.keep hb)
  · subst h1; exact .inr ⟨b, rfl, (hb b rfl).trans h2, h3⟩
theorem appendQ (hd : GQ st v l) (hs : Bys st u m) (hm : m ≠ []) (hsz : l.length + m.length ≤ 1099511627776) {W : Value → St → Prop}
    (h : ∀ v' st', Gro st' v' (l ++ m) → (ow v' = ow v ∨ (ow v' = st.next + 1 ∧ st.next + 1 ≤ st'.next)) → st.next ≤ st'.next → (∀ i, i + 1 ≠ ow v → i < st.next → st'.get i = st.get i) → W v' st') :
    wopK (.append 1 1) [v, u] st W := by
  rcases hd with hd | ⟨b, h1, h2, h3⟩
  · exact append_go hd hs hsz h
  · subst h1
    obtain ⟨s1, s2⟩ := hs.src
    have hm0 : m.length ≠ 0 := fun e => hm (List.eq_nil_of_length_eq_zero e)
    have h4 : st.cells ⟨b, 0, none⟩ (l.length * 1) = some (l.map u8v) := by
      simp only [St.cells, h2]
      rw [if_pos (by simp), List.drop_zero, List.take_of_length_le (by simp)]
    simp only [wopK, wop, appendV, s1, s2, hm0, if_false, all_u8, Nat.one_ne_zero, not_true_eq_false, or_self, h2, h4, if_true]
    rw [if_pos ⟨by omega, hsz⟩, if_neg (by omega)]
    refine h _ (st.new (.row (l.map u8v ++ m.map u8v) 1 false)) (.inr (.inl ⟨st.next, 0, l.length + m.length, l.map u8v ++ m.map u8v, by rw [List.length_append]; rfl, by rw [List.length_append]; exact Nat.le_refl _, get_new_same _ _, by simp, ?_⟩)) (.inr ⟨rfl, Nat.le_refl _⟩) (Nat.le_succ _) fun i _ hi => get_new_ne _ _ _ (by omega)
    rw [List.drop_zero, List.take_of_length_le (by simp), List.map_append]
end

theorem rk_strB {st : St} {v : Value} {l : List UInt8} {K : Value → Prop} (h : Bys st v l) (hl : l ≠ []) : ropK .bytesToStr [v] st K = K (.string (bs l)) := by
  rcases h with ⟨h, h'⟩ | ⟨b, o, cap, cs, g, ro, q1, q2, q3, q4, q5, q6⟩ | ⟨ad, h, h'⟩
  · subst h h'; rfl
  · subst q1
    exact rk_toStr q3 q6 q5 K
  · exact absurd h' hl
theorem q_take {l : List UInt8} {j : Nat} {c : UInt8} (h : l[j]? = some c) : (l.take (j + 1)).map qB = (l.take j).map qB ++ [qB c] := by
  rw [List.take_add_one, h]
  simp
theorem esc_one (l : List UInt8) (c : UInt8) : escL (l ++ [c]) = escL l ++ escB c := by
  rw [escL_append]
  simp [escL]
theorem any_one (l : List UInt8) (c : UInt8) : (l ++ [c]).any spc = (l.any spc || spc c) := by simp
theorem escL_nospc (l : List UInt8) (h : l.any spc = false) : escL l = l := by
  refine escL_none l ?_
  unfold nesc
  rw [List.countP_eq_zero]
  intro c hc he
  have hs : spc c = false := by
    rw [List.any_eq_false] at h
    have := h c hc
    cases hh : spc c with
    | true => exact absurd hh this
    | false => rfl
  rcases isE_iff.1 he with rfl | rfl | rfl
  · exact absurd hs (by decide)
  · exact absurd hs (by decide)
  · exact absurd hs (by decide)
theorem spc_no {c : UInt8} (h : c.toNat ≠ 10 ∧ c.toNat ≠ 32 ∧ c.toNat ≠ 34 ∧ c.toNat ≠ 61 ∧ c.toNat ≠ 42) : spc c = false := by
  simp only [spc, List.contains_cons, List.contains_nil, Bool.or_false, Bool.or_eq_false_iff, beq_eq_false_iff_ne]
  refine ⟨?_, ?_, ?_, ?_, ?_⟩ <;> (intro e; subst e; simp at h)
theorem escB_no {c : UInt8} (h : c.toNat ≠ 10 ∧ c.toNat ≠ 34 ∧ c.toNat ≠ 42) : escB c = [c] := by
  refine escB_n ?_
  cases hh : isE c with
  | false => rfl
  | true =>
    rcases isE_iff.1 hh with rfl | rfl | rfl <;> simp at h

attribute [local irreducible] callO wopK ropK popK opK grpsE listE sx Runs

section
variable {st : St} {K : Value → St → Prop}

theorem kQuoteR (n : Nat) (s : ByteArray) (hs : s.size ≤ 40000) (h : ∀ st', Frm st st' → K (.string (bs (quoteL s.data.toList))) st') :
    callK (callO T0 orc fns 100000 (n + 1)) 27 [.string s] st K := by
  refine fn_runs (fn := g27) ?_ ?_ ?_
  · rfl
  · rfl
  unfold g27
  have hsz := size_list s
  have e0 : (s = ByteArray.empty) = (s.data.toList = []) := propext ⟨fun e => by rw [e]; rfl, fun e => ByteArray.ext (by simpa using e)⟩
  simp (disch := omega) only [↓sxA, ↓wk_store, sxB, sxP, Nat.reduceLeDiff, reduceCtorEq, Nat.reduceEqDiff, Nat.reduceAdd, Int.reduceLT, Int.reduceLE, Int.reduceEq, Nat.reduceLT, Int.reduceToNat, Int.reduceAdd, Int.reduceSub, ↓reduceIte]
  by_cases h0 : s = ByteArray.empty
  · subst h0
    rw [if_pos rfl]
    refine loop_rule [0, 3, 4, 5] (fun vs s' => vs = [.string .empty, .bool false, .slice (some ⟨st.next, 0, none⟩) 1 1, .int .i64 0] ∧ s' = st.new (.row [.int .u8 34] 0 false)) (fun vs _ => 0) ?_ ?_ ?_
    · rfl
    · exact ⟨_, rfl, ⟨rfl, rfl⟩, by decide⟩
    · rintro vs s' ⟨rfl, rfl⟩
      show sx _ _ _ _ _ [(0, _), (3, _), (4, _), (5, _)] _ _ _ _
      simp (disch := omega) only [↓sxA, ↓wk_store, sxB, sxP, Nat.reduceLeDiff, reduceCtorEq, Nat.reduceEqDiff, Nat.reduceAdd, Int.reduceLT, Int.reduceLE, Int.reduceEq, Nat.reduceLT, Int.reduceToNat, Int.reduceAdd, Int.reduceSub, ↓reduceIte, show ByteArray.empty.size = 0 from rfl]
      have hQ : GQ (st.new (.row [.int .u8 34] 0 false)) (.slice (some ⟨st.next, 0, none⟩) 1 1) [34] := .inr ⟨st.next, rfl, get_new_same _ _, by decide⟩
      have F := Frm.new st (.row [.int .u8 34] 0 false)
      have n0 : (st.new (.row [.int .u8 34] 0 false)).next = st.next + 1 := rfl
      rw [← n0]
      generalize st.new (.row [.int .u8 34] 0 false) = s' at hQ F n0 ⊢
      have F1 := Frm.new s' (.row [.int .u8 34] 0 false)
      have g1 := get_new_same s' (.row [.int .u8 34] 0 false)
      have n1 : (s'.new (.row [.int .u8 34] 0 false)).next = s'.next + 1 := rfl
      generalize s'.new (.row [.int .u8 34] 0 false) = s1 at F1 g1 n1 ⊢
      have hB : Bys s1 (.slice (some ⟨s'.next, 0, none⟩) 1 1) [34] := .inr (.inl ⟨s'.next, 0, 1, [.int .u8 34], 0, false, rfl, by decide, g1, .inl rfl, by decide, rfl⟩)
      refine appendQ (hQ.keep fun i hi => F1.old i (by have : i = st.next := by simpa [ow] using hi
                                                       omega)) hB (by decide) (by decide) fun v' s2 k1 k2 k3 k4 => ?_
      have rs := fun K => rk_str (K := K) k1
      simp (disch := omega) only [↓sxA, ↓wk_store, sxB, sxP, Nat.reduceLeDiff, reduceCtorEq, Nat.reduceEqDiff, Nat.reduceAdd, Int.reduceLT, Int.reduceLE, Int.reduceEq, Nat.reduceLT, Int.reduceToNat, Int.reduceAdd, Int.reduceSub, ↓reduceIte, ↓rs]
      refine h s2 ⟨by omega, fun i hi => ?_⟩
      rw [k4 i (by show i + 1 ≠ st.next + 1; omega) (by omega), F1.old i (by omega), F.old i hi]
  rw [if_neg h0]
  have h0' : s.data.toList ≠ [] := fun e => h0 (e0 ▸ e)
  refine loop_rule [0, 3, 4, 5] (fun vs s' => ∃ (j : Nat) (v : Value), vs = [.string s, .bool (decide (s.data.toList ≠ []) && !((s.data.toList.take j).map qB).any spc), v, .int .i64 (j : Nat)] ∧ j ≤ s.size ∧ GQ s' v (34 :: escL ((s.data.toList.take j).map qB)) ∧ Frm st s' ∧ st.next + 1 ≤ ow v ∧ ow v ≤ s'.next) (fun vs _ => match lget vs 3 with
      | .int _ k => ((s.size : Int) - k).toNat
      | _ => 0) ?_ ?_ ?_
  · rfl
  · refine ⟨_, rfl, ⟨0, .slice (some ⟨st.next, 0, none⟩) 1 1, ?_, Nat.zero_le _, .inr ⟨st.next, rfl, get_new_same _ _, by simp⟩, Frm.new _ _, Nat.le_refl _, Nat.le_refl _⟩, ?_⟩
    · rw [decide_eq_true h0']
      rfl
    · show ((s.size : Int) - 0).toNat < 100000
      omega
  · rintro vs s' ⟨j, v, rfl, j1, hQ, F, hv1, hv2⟩
    show sx _ _ _ _ _ [(0, _), (3, _), (4, _), (5, _)] _ _ _ _
    by_cases hj : j < s.size
    · obtain ⟨c, hc, hgd, hb⟩ := byte_at s j hj
      have qt := q_take hc
      have ll : (escL ((s.data.toList.take j).map qB)).length ≤ 80000 := by
        have h1 := escL_len ((s.data.toList.take j).map qB)
        have h2 := nesc_le ((s.data.toList.take j).map qB)
        rw [List.length_map, List.length_take] at h1 h2
        omega
      have hmeas : ((s.size : Int) - ((j : Int) + 1)).toNat < ((s.size : Int) - j).toNat := by omega
      by_cases c1 : (c.toNat : Int) = 10
      · have q1 : qB c = 10 := (qB_keep (.inl (by omega))).trans (u8_eq (n := 10) (by omega))
        have q2 : escB (10 : UInt8) = [42, 110] := rfl
        have q3 : spc (10 : UInt8) = true := rfl
        have t10 : ((c.toNat : Int) = 10) = True := eq_true (by omega)
        have tlo : ((c.toNat : Int) < 32) = True := eq_true (by omega)
        have thi : ((126 : Int) < c.toNat) = False := eq_false (by omega)
        have t32 : ((c.toNat : Int) = 32) = False := eq_false (by omega)
        have t34 : ((c.toNat : Int) = 34) = False := eq_false (by omega)
        have t61 : ((c.toNat : Int) = 61) = False := eq_false (by omega)
        have t42 : ((c.toNat : Int) = 42) = False := eq_false (by omega)
        simp (disch := omega) only [q_indexStr, Int.toNat_natCast, hgd, ↓sxA, ↓wk_store, sxB, sxP, Nat.reduceLeDiff, reduceCtorEq, Nat.reduceEqDiff, Nat.reduceAdd, Int.reduceLT, Int.reduceLE, Int.reduceEq, Nat.reduceLT, Int.reduceToNat, Int.reduceAdd, Int.reduceSub, ↓reduceIte, t10, tlo, thi, t32, t34, t61, t42]
        have F1 := Frm.new s' (.row [.int .u8 42, .int .u8 110] 0 false)
        have g1 := get_new_same s' (.row [.int .u8 42, .int .u8 110] 0 false)
        have n1 : (s'.new (.row [.int .u8 42, .int .u8 110] 0 false)).next = s'.next + 1 := rfl
        generalize s'.new (.row [.int .u8 42, .int .u8 110] 0 false) = s1 at F1 g1 n1 ⊢
        have hB : Bys s1 (.slice (some ⟨s'.next, 0, none⟩) 2 2) [42, 110] := .inr (.inl ⟨s'.next, 0, 2, [.int .u8 42, .int .u8 110], 0, false, rfl, by simp, g1, .inl rfl, by simp, by first | rfl | (simp [u8v]; omega)⟩)
        refine appendQ (hQ.keep fun i hi => F1.old i (by omega)) hB (by simp) (by simp only [List.length_cons, List.length_nil]; omega) fun v' s2 k1 k2 k3 k4 => ?_
        simp (disch := omega) only [↓sxA, ↓wk_store, sxB, sxP, Nat.reduceLeDiff, reduceCtorEq, Nat.reduceEqDiff, Nat.reduceAdd, Int.reduceLT, Int.reduceLE, Int.reduceEq, Nat.reduceLT, Int.reduceToNat, Int.reduceAdd, Int.reduceSub, ↓reduceIte]
        refine ⟨_, rfl, ⟨j + 1, v', ?_, hj, .inl ?_, ⟨by omega, fun i hi => ?_⟩, by omega, by omega⟩, hmeas⟩
        · rw [qt, any_one, q1, q3]
          simp
        · rw [qt, esc_one, q1, q2]
          exact k1
        · rw [k4 i (by omega) (by omega), F1.old i (by omega), F.old i hi]
      by_cases c2 : (c.toNat : Int) < 32
      · have q1 : qB c = 63 := qB_q (by omega) (by omega)
        have q2 : escB (63 : UInt8) = [63] := rfl
        have q3 : spc (63 : UInt8) = false := rfl
        have t10 : ((c.toNat : Int) = 10) = False := eq_false (by omega)
        have tlo : ((c.toNat : Int) < 32) = True := eq_true (by omega)
        simp (disch := omega) only [q_indexStr, Int.toNat_natCast, hgd, ↓sxA, ↓wk_store, sxB, sxP, Nat.reduceLeDiff, reduceCtorEq, Nat.reduceEqDiff, Nat.reduceAdd, Int.reduceLT, Int.reduceLE, Int.reduceEq, Nat.reduceLT, Int.reduceToNat, Int.reduceAdd, Int.reduceSub, ↓reduceIte, t10, tlo]
        have F1 := Frm.new s' (.row [.int .u8 63] 0 false)
        have g1 := get_new_same s' (.row [.int .u8 63] 0 false)
        have n1 : (s'.new (.row [.int .u8 63] 0 false)).next = s'.next + 1 := rfl
        generalize s'.new (.row [.int .u8 63] 0 false) = s1 at F1 g1 n1 ⊢
        have hB : Bys s1 (.slice (some ⟨s'.next, 0, none⟩) 1 1) [63] := .inr (.inl ⟨s'.next, 0, 1, [.int .u8 63], 0, false, rfl, by simp, g1, .inl rfl, by simp, by first | rfl | (simp [u8v]; omega)⟩)
        refine appendQ (hQ.keep fun i hi => F1.old i (by omega)) hB (by simp) (by simp only [List.length_cons, List.length_nil]; omega) fun v' s2 k1 k2 k3 k4 => ?_
        simp (disch := omega) only [↓sxA, ↓wk_store, sxB, sxP, Nat.reduceLeDiff, reduceCtorEq, Nat.reduceEqDiff, Nat.reduceAdd, Int.reduceLT, Int.reduceLE, Int.reduceEq, Nat.reduceLT, Int.reduceToNat, Int.reduceAdd, Int.reduceSub, ↓reduceIte]
        refine ⟨_, rfl, ⟨j + 1, v', ?_, hj, .inl ?_, ⟨by omega, fun i hi => ?_⟩, by omega, by omega⟩, hmeas⟩
        · rw [qt, any_one, q1, q3]
          simp
        · rw [qt, esc_one, q1, q2]
          exact k1
        · rw [k4 i (by omega) (by omega), F1.old i (by omega), F.old i hi]
      by_cases c3 : (126 : Int) < c.toNat
      · have q1 : qB c = 63 := qB_q (by omega) (by omega)
        have q2 : escB (63 : UInt8) = [63] := rfl
        have q3 : spc (63 : UInt8) = false := rfl
        have t10 : ((c.toNat : Int) = 10) = False := eq_false (by omega)
        have tlo : ((c.toNat : Int) < 32) = False := eq_false (by omega)
        have thi : ((126 : Int) < c.toNat) = True := eq_true (by omega)
        simp (disch := omega) only [q_indexStr, Int.toNat_natCast, hgd, ↓sxA, ↓wk_store, sxB, sxP, Nat.reduceLeDiff, reduceCtorEq, Nat.reduceEqDiff, Nat.reduceAdd, Int.reduceLT, Int.reduceLE, Int.reduceEq, Nat.reduceLT, Int.reduceToNat, Int.reduceAdd, Int.reduceSub, ↓reduceIte, t10, tlo, thi]
        have F1 := Frm.new s' (.row [.int .u8 63] 0 false)
        have g1 := get_new_same s' (.row [.int .u8 63] 0 false)
        have n1 : (s'.new (.row [.int .u8 63] 0 false)).next = s'.next + 1 := rfl
        generalize s'.new (.row [.int .u8 63] 0 false) = s1 at F1 g1 n1 ⊢
        have hB : Bys s1 (.slice (some ⟨s'.next, 0, none⟩) 1 1) [63] := .inr (.inl ⟨s'.next, 0, 1, [.int .u8 63], 0, false, rfl, by simp, g1, .inl rfl, by simp, by first | rfl | (simp [u8v]; omega)⟩)
        refine appendQ (hQ.keep fun i hi => F1.old i (by omega)) hB (by simp) (by simp only [List.length_cons, List.length_nil]; omega) fun v' s2 k1 k2 k3 k4 => ?_
        simp (disch := omega) only [↓sxA, ↓wk_store, sxB, sxP, Nat.reduceLeDiff, reduceCtorEq, Nat.reduceEqDiff, Nat.reduceAdd, Int.reduceLT, Int.reduceLE, Int.reduceEq, Nat.reduceLT, Int.reduceToNat, Int.reduceAdd, Int.reduceSub, ↓reduceIte]
        refine ⟨_, rfl, ⟨j + 1, v', ?_, hj, .inl ?_, ⟨by omega, fun i hi => ?_⟩, by omega, by omega⟩, hmeas⟩
        · rw [qt, any_one, q1, q3]
          simp
        · rw [qt, esc_one, q1, q2]
          exact k1
        · rw [k4 i (by omega) (by omega), F1.old i (by omega), F.old i hi]
      by_cases c4 : (c.toNat : Int) = 32
      · have q1 : qB c = 32 := (qB_keep (.inr (by omega))).trans (u8_eq (n := 32) (by omega))
        have q2 : escB (32 : UInt8) = [32] := rfl
        have q3 : spc (32 : UInt8) = true := rfl
        have t10 : ((c.toNat : Int) = 10) = False := eq_false (by omega)
        have tlo : ((c.toNat : Int) < 32) = False := eq_false (by omega)
        have thi : ((126 : Int) < c.toNat) = False := eq_false (by omega)
        have t32 : ((c.toNat : Int) = 32) = True := eq_true (by omega)
        have t34 : ((c.toNat : Int) = 34) = False := eq_false (by omega)
        have t61 : ((c.toNat : Int) = 61) = False := eq_false (by omega)
        have t42 : ((c.toNat : Int) = 42) = False := eq_false (by omega)
        simp (disch := omega) only [q_indexStr, Int.toNat_natCast, hgd, ↓sxA, ↓wk_store, sxB, sxP, Nat.reduceLeDiff, reduceCtorEq, Nat.reduceEqDiff, Nat.reduceAdd, Int.reduceLT, Int.reduceLE, Int.reduceEq, Nat.reduceLT, Int.reduceToNat, Int.reduceAdd, Int.reduceSub, ↓reduceIte, t10, tlo, thi, t32, t34, t61, t42]
        have F1 := Frm.new s' (.row [.int .u8 (c.toNat : Int)] 0 false)
        have g1 := get_new_same s' (.row [.int .u8 (c.toNat : Int)] 0 false)
        have n1 : (s'.new (.row [.int .u8 (c.toNat : Int)] 0 false)).next = s'.next + 1 := rfl
        generalize s'.new (.row [.int .u8 (c.toNat : Int)] 0 false) = s1 at F1 g1 n1 ⊢
        have hB : Bys s1 (.slice (some ⟨s'.next, 0, none⟩) 1 1) [32] := .inr (.inl ⟨s'.next, 0, 1, [.int .u8 (c.toNat : Int)], 0, false, rfl, by simp, g1, .inl rfl, by simp, by first | rfl | (simp [u8v]; omega)⟩)
        refine appendQ (hQ.keep fun i hi => F1.old i (by omega)) hB (by simp) (by simp only [List.length_cons, List.length_nil]; omega) fun v' s2 k1 k2 k3 k4 => ?_
        simp (disch := omega) only [↓sxA, ↓wk_store, sxB, sxP, Nat.reduceLeDiff, reduceCtorEq, Nat.reduceEqDiff, Nat.reduceAdd, Int.reduceLT, Int.reduceLE, Int.reduceEq, Nat.reduceLT, Int.reduceToNat, Int.reduceAdd, Int.reduceSub, ↓reduceIte]
        refine ⟨_, rfl, ⟨j + 1, v', ?_, hj, .inl ?_, ⟨by omega, fun i hi => ?_⟩, by omega, by omega⟩, hmeas⟩
        · rw [qt, any_one, q1, q3]
          simp
        · rw [qt, esc_one, q1, q2]
          exact k1
        · rw [k4 i (by omega) (by omega), F1.old i (by omega), F.old i hi]
      by_cases c5 : (c.toNat : Int) = 34
      · have q1 : qB c = 34 := (qB_keep (.inr (by omega))).trans (u8_eq (n := 34) (by omega))
        have q2 : escB (34 : UInt8) = [42, 34] := rfl
        have q3 : spc (34 : UInt8) = true := rfl
        have t10 : ((c.toNat : Int) = 10) = False := eq_false (by omega)
        have tlo : ((c.toNat : Int) < 32) = False := eq_false (by omega)
        have thi : ((126 : Int) < c.toNat) = False := eq_false (by omega)
        have t32 : ((c.toNat : Int) = 32) = False := eq_false (by omega)
        have t34 : ((c.toNat : Int) = 34) = True := eq_true (by omega)
        have t61 : ((c.toNat : Int) = 61) = False := eq_false (by omega)
        have t42 : ((c.toNat : Int) = 42) = False := eq_false (by omega)
        simp (disch := omega) only [q_indexStr, Int.toNat_natCast, hgd, ↓sxA, ↓wk_store, sxB, sxP, Nat.reduceLeDiff, reduceCtorEq, Nat.reduceEqDiff, Nat.reduceAdd, Int.reduceLT, Int.reduceLE, Int.reduceEq, Nat.reduceLT, Int.reduceToNat, Int.reduceAdd, Int.reduceSub, ↓reduceIte, t10, tlo, thi, t32, t34, t61, t42]
        have F1 := Frm.new s' (.row [.int .u8 42, .int .u8 (c.toNat : Int)] 0 false)
        have g1 := get_new_same s' (.row [.int .u8 42, .int .u8 (c.toNat : Int)] 0 false)
        have n1 : (s'.new (.row [.int .u8 42, .int .u8 (c.toNat : Int)] 0 false)).next = s'.next + 1 := rfl
        generalize s'.new (.row [.int .u8 42, .int .u8 (c.toNat : Int)] 0 false) = s1 at F1 g1 n1 ⊢
        have hB : Bys s1 (.slice (some ⟨s'.next, 0, none⟩) 2 2) [42, 34] := .inr (.inl ⟨s'.next, 0, 2, [.int .u8 42, .int .u8 (c.toNat : Int)], 0, false, rfl, by simp, g1, .inl rfl, by simp, by first | rfl | (simp [u8v]; omega)⟩)
        refine appendQ (hQ.keep fun i hi => F1.old i (by omega)) hB (by simp) (by simp only [List.length_cons, List.length_nil]; omega) fun v' s2 k1 k2 k3 k4 => ?_
        simp (disch := omega) only [↓sxA, ↓wk_store, sxB, sxP, Nat.reduceLeDiff, reduceCtorEq, Nat.reduceEqDiff, Nat.reduceAdd, Int.reduceLT, Int.reduceLE, Int.reduceEq, Nat.reduceLT, Int.reduceToNat, Int.reduceAdd, Int.reduceSub, ↓reduceIte]
        refine ⟨_, rfl, ⟨j + 1, v', ?_, hj, .inl ?_, ⟨by omega, fun i hi => ?_⟩, by omega, by omega⟩, hmeas⟩
        · rw [qt, any_one, q1, q3]
          simp
        · rw [qt, esc_one, q1, q2]
          exact k1
        · rw [k4 i (by omega) (by omega), F1.old i (by omega), F.old i hi]
      by_cases c6 : (c.toNat : Int) = 61
      · have q1 : qB c = 61 := (qB_keep (.inr (by omega))).trans (u8_eq (n := 61) (by omega))
        have q2 : escB (61 : UInt8) = [61] := rfl
        have q3 : spc (61 : UInt8) = true := rfl
        have t10 : ((c.toNat : Int) = 10) = False := eq_false (by omega)
        have tlo : ((c.toNat : Int) < 32) = False := eq_false (by omega)
        have thi : ((126 : Int) < c.toNat) = False := eq_false (by omega)
        have t32 : ((c.toNat : Int) = 32) = False := eq_false (by omega)
        have t34 : ((c.toNat : Int) = 34) = False := eq_false (by omega)
        have t61 : ((c.toNat : Int) = 61) = True := eq_true (by omega)
        have t42 : ((c.toNat : Int) = 42) = False := eq_false (by omega)
        simp (disch := omega) only [q_indexStr, Int.toNat_natCast, hgd, ↓sxA, ↓wk_store, sxB, sxP, Nat.reduceLeDiff, reduceCtorEq, Nat.reduceEqDiff, Nat.reduceAdd, Int.reduceLT, Int.reduceLE, Int.reduceEq, Nat.reduceLT, Int.reduceToNat, Int.reduceAdd, Int.reduceSub, ↓reduceIte, t10, tlo, thi, t32, t34, t61, t42]
        have F1 := Frm.new s' (.row [.int .u8 (c.toNat : Int)] 0 false)
        have g1 := get_new_same s' (.row [.int .u8 (c.toNat : Int)] 0 false)
        have n1 : (s'.new (.row [.int .u8 (c.toNat : Int)] 0 false)).next = s'.next + 1 := rfl
        generalize s'.new (.row [.int .u8 (c.toNat : Int)] 0 false) = s1 at F1 g1 n1 ⊢
        have hB : Bys s1 (.slice (some ⟨s'.next, 0, none⟩) 1 1) [61] := .inr (.inl ⟨s'.next, 0, 1, [.int .u8 (c.toNat : Int)], 0, false, rfl, by simp, g1, .inl rfl, by simp, by first | rfl | (simp [u8v]; omega)⟩)
        refine appendQ (hQ.keep fun i hi => F1.old i (by omega)) hB (by simp) (by simp only [List.length_cons, List.length_nil]; omega) fun v' s2 k1 k2 k3 k4 => ?_
        simp (disch := omega) only [↓sxA, ↓wk_store, sxB, sxP, Nat.reduceLeDiff, reduceCtorEq, Nat.reduceEqDiff, Nat.reduceAdd, Int.reduceLT, Int.reduceLE, Int.reduceEq, Nat.reduceLT, Int.reduceToNat, Int.reduceAdd, Int.reduceSub, ↓reduceIte]
        refine ⟨_, rfl, ⟨j + 1, v', ?_, hj, .inl ?_, ⟨by omega, fun i hi => ?_⟩, by omega, by omega⟩, hmeas⟩
        · rw [qt, any_one, q1, q3]
          simp
        · rw [qt, esc_one, q1, q2]
          exact k1
        · rw [k4 i (by omega) (by omega), F1.old i (by omega), F.old i hi]
      by_cases c7 : (c.toNat : Int) = 42
      · have q1 : qB c = 42 := (qB_keep (.inr (by omega))).trans (u8_eq (n := 42) (by omega))
        have q2 : escB (42 : UInt8) = [42, 42] := rfl
        have q3 : spc (42 : UInt8) = true := rfl
        have t10 : ((c.toNat : Int) = 10) = False := eq_false (by omega)
        have tlo : ((c.toNat : Int) < 32) = False := eq_false (by omega)
        have thi : ((126 : Int) < c.toNat) = False := eq_false (by omega)
        have t32 : ((c.toNat : Int) = 32) = False := eq_false (by omega)
        have t34 : ((c.toNat : Int) = 34) = False := eq_false (by omega)
        have t61 : ((c.toNat : Int) = 61) = False := eq_false (by omega)
        have t42 : ((c.toNat : Int) = 42) = True := eq_true (by omega)
        simp (disch := omega) only [q_indexStr, Int.toNat_natCast, hgd, ↓sxA, ↓wk_store, sxB, sxP, Nat.reduceLeDiff, reduceCtorEq, Nat.reduceEqDiff, Nat.reduceAdd, Int.reduceLT, Int.reduceLE, Int.reduceEq, Nat.reduceLT, Int.reduceToNat, Int.reduceAdd, Int.reduceSub, ↓reduceIte, t10, tlo, thi, t32, t34, t61, t42]
        have F1 := Frm.new s' (.row [.int .u8 42, .int .u8 (c.toNat : Int)] 0 false)
        have g1 := get_new_same s' (.row [.int .u8 42, .int .u8 (c.toNat : Int)] 0 false)
        have n1 : (s'.new (.row [.int .u8 42, .int .u8 (c.toNat : Int)] 0 false)).next = s'.next + 1 := rfl
        generalize s'.new (.row [.int .u8 42, .int .u8 (c.toNat : Int)] 0 false) = s1 at F1 g1 n1 ⊢
        have hB : Bys s1 (.slice (some ⟨s'.next, 0, none⟩) 2 2) [42, 42] := .inr (.inl ⟨s'.next, 0, 2, [.int .u8 42, .int .u8 (c.toNat : Int)], 0, false, rfl, by simp, g1, .inl rfl, by simp, by first | rfl | (simp [u8v]; omega)⟩)
        refine appendQ (hQ.keep fun i hi => F1.old i (by omega)) hB (by simp) (by simp only [List.length_cons, List.length_nil]; omega) fun v' s2 k1 k2 k3 k4 => ?_
        simp (disch := omega) only [↓sxA, ↓wk_store, sxB, sxP, Nat.reduceLeDiff, reduceCtorEq, Nat.reduceEqDiff, Nat.reduceAdd, Int.reduceLT, Int.reduceLE, Int.reduceEq, Nat.reduceLT, Int.reduceToNat, Int.reduceAdd, Int.reduceSub, ↓reduceIte]
        refine ⟨_, rfl, ⟨j + 1, v', ?_, hj, .inl ?_, ⟨by omega, fun i hi => ?_⟩, by omega, by omega⟩, hmeas⟩
        · rw [qt, any_one, q1, q3]
          simp
        · rw [qt, esc_one, q1, q2]
          exact k1
        · rw [k4 i (by omega) (by omega), F1.old i (by omega), F.old i hi]
      have q1 : qB c = c := qB_keep (.inr (by omega))
      have q2 : escB (c : UInt8) = [c] := escB_no (by omega)
      have q3 : spc (c : UInt8) = false := spc_no (by omega)
      have t10 : ((c.toNat : Int) = 10) = False := eq_false (by omega)
      have tlo : ((c.toNat : Int) < 32) = False := eq_false (by omega)
      have thi : ((126 : Int) < c.toNat) = False := eq_false (by omega)
      have t32 : ((c.toNat : Int) = 32) = False := eq_false (by omega)
      have t34 : ((c.toNat : Int) = 34) = False := eq_false (by omega)
      have t61 : ((c.toNat : Int) = 61) = False := eq_false (by omega)
      have t42 : ((c.toNat : Int) = 42) = False := eq_false (by omega)
      simp (disch := omega) only [q_indexStr, Int.toNat_natCast, hgd, ↓sxA, ↓wk_store, sxB, sxP, Nat.reduceLeDiff, reduceCtorEq, Nat.reduceEqDiff, Nat.reduceAdd, Int.reduceLT, Int.reduceLE, Int.reduceEq, Nat.reduceLT, Int.reduceToNat, Int.reduceAdd, Int.reduceSub, ↓reduceIte, t10, tlo, thi, t32, t34, t61, t42]
      have F1 := Frm.new s' (.row [.int .u8 (c.toNat : Int)] 0 false)
      have g1 := get_new_same s' (.row [.int .u8 (c.toNat : Int)] 0 false)
      have n1 : (s'.new (.row [.int .u8 (c.toNat : Int)] 0 false)).next = s'.next + 1 := rfl
      generalize s'.new (.row [.int .u8 (c.toNat : Int)] 0 false) = s1 at F1 g1 n1 ⊢
      have hB : Bys s1 (.slice (some ⟨s'.next, 0, none⟩) 1 1) [c] := .inr (.inl ⟨s'.next, 0, 1, [.int .u8 (c.toNat : Int)], 0, false, rfl, by simp, g1, .inl rfl, by simp, by first | rfl | (simp [u8v]; omega)⟩)
      refine appendQ (hQ.keep fun i hi => F1.old i (by omega)) hB (by simp) (by simp only [List.length_cons, List.length_nil]; omega) fun v' s2 k1 k2 k3 k4 => ?_
      simp (disch := omega) only [↓sxA, ↓wk_store, sxB, sxP, Nat.reduceLeDiff, reduceCtorEq, Nat.reduceEqDiff, Nat.reduceAdd, Int.reduceLT, Int.reduceLE, Int.reduceEq, Nat.reduceLT, Int.reduceToNat, Int.reduceAdd, Int.reduceSub, ↓reduceIte]
      refine ⟨_, rfl, ⟨j + 1, v', ?_, hj, .inl ?_, ⟨by omega, fun i hi => ?_⟩, by omega, by omega⟩, hmeas⟩
      · rw [qt, any_one, q1, q3]
        simp
      · rw [qt, esc_one, q1, q2]
        exact k1
      · rw [k4 i (by omega) (by omega), F1.old i (by omega), F.old i hi]
    · have e : s.data.toList.take j = s.data.toList := List.take_of_length_le (by omega)
      rw [e] at hQ ⊢
      rw [decide_eq_true h0', Bool.true_and]
      cases hq : (s.data.toList.map qB).any spc with
      | false =>
        rw [escL_nospc _ hq] at hQ
        have hh := h s' F
        unfold quoteL at hh
        rw [if_pos ⟨h0', hq⟩] at hh
        have sl := fun K => sllo_bys (K := K) hQ.bys .i64 1 (by decide) (by simp only [List.length_cons]; omega)
        have rs := fun K => rk_strB (K := K) (blo_bys hQ.bys 1 (by simp)) (fun e => h0' (List.map_eq_nil_iff.1 e))
        rw [show (List.drop 1 (34 :: s.data.toList.map qB)) = s.data.toList.map qB from rfl] at rs
        simp (disch := omega) only [↓sxA, ↓wk_store, sxB, sxP, Nat.reduceLeDiff, reduceCtorEq, Nat.reduceEqDiff, Nat.reduceAdd, Int.reduceLT, Int.reduceLE, Int.reduceEq, Nat.reduceLT, Int.reduceToNat, Int.reduceAdd, Int.reduceSub, ↓reduceIte, Bool.not_false, ↓sl, show Int.toNat 1 = 1 from rfl, ↓rs]
        exact hh
      | true =>
        have hh := fun s' F => h s' F
        unfold quoteL at hh
        rw [if_neg (by simp [hq])] at hh
        simp (disch := omega) only [↓sxA, ↓wk_store, sxB, sxP, Nat.reduceLeDiff, reduceCtorEq, Nat.reduceEqDiff, Nat.reduceAdd, Int.reduceLT, Int.reduceLE, Int.reduceEq, Nat.reduceLT, Int.reduceToNat, Int.reduceAdd, Int.reduceSub, ↓reduceIte, Bool.not_true]
        have ll : (escL (s.data.toList.map qB)).length ≤ 80000 := by
          have h1 := escL_len (s.data.toList.map qB)
          have h2 := nesc_le (s.data.toList.map qB)
          rw [List.length_map] at h1 h2
          omega
        have F1 := Frm.new s' (.row [.int .u8 34] 0 false)
        have g1 := get_new_same s' (.row [.int .u8 34] 0 false)
        have n1 : (s'.new (.row [.int .u8 34] 0 false)).next = s'.next + 1 := rfl
        generalize s'.new (.row [.int .u8 34] 0 false) = s1 at F1 g1 n1 ⊢
        have hB : Bys s1 (.slice (some ⟨s'.next, 0, none⟩) 1 1) [34] := .inr (.inl ⟨s'.next, 0, 1, [.int .u8 34], 0, false, rfl, by decide, g1, .inl rfl, by decide, rfl⟩)
        refine appendQ (hQ.keep fun i hi => F1.old i (by omega)) hB (by simp) (by simp only [List.length_cons, List.length_nil]; omega) fun v' s2 k1 k2 k3 k4 => ?_
        have rs := fun K => rk_str (K := K) k1
        simp (disch := omega) only [↓sxA, ↓wk_store, sxB, sxP, Nat.reduceLeDiff, reduceCtorEq, Nat.reduceEqDiff, Nat.reduceAdd, Int.reduceLT, Int.reduceLE, Int.reduceEq, Nat.reduceLT, Int.reduceToNat, Int.reduceAdd, Int.reduceSub, ↓reduceIte, ↓rs]
        refine hh s2 ⟨by omega, fun i hi => ?_⟩
        rw [k4 i (by omega) (by omega), F1.old i (by omega), F.old i hi]
end
end Go.Proofs.YtdmemibnphcedaaGreatDoor
end
section
set_option linter.unusedSimpArgs false
set_option linter.unusedVariables false
set_option maxRecDepth 10000
set_option linter.unusedSectionVars false
namespace Go.Proofs.YtdmemibnphcedaaGreatDoor
open Go.Am

theorem pr_fin {L : List UInt8} {p : Nat} (hp : p ≤ L.length) (h : nxt L p = .fin) : Pr L p L.length := by
  have := blk_pr hp
  rw [(nxt_fin hp).1 h] at this
  exact this
theorem WsR.pr {L : List UInt8} {p : Nat} {r : Option (List (List UInt8 × Bool))} (h : WsR L p r) : p ≤ L.length → ∀ l, r = some l → Pr L p L.length := by
  induction h with
  | fin h => intro hp l _; exact pr_fin hp h
  | bad h => intro hp l e; cases e
  | wd h k ih =>
    intro hp l e
    rw [Option.map_eq_some_iff] at e
    obtain ⟨l', e1, _⟩ := e
    obtain ⟨_, _, _, n4, n5⟩ := nxt_wd hp h
    exact n5.split (ih n4 l' e1)
theorem pr_all {L : List UInt8} (h : Pr L 0 L.length) : L.all prn = true := by
  rw [List.all_eq_true]
  intro c hc
  obtain ⟨i, hi, rfl⟩ := List.getElem_of_mem hc
  exact h i (Nat.zero_le _) hi _ (List.getElem?_eq_getElem hi)

theorem WO.of_none {s : ByteArray} (hs : s.size ≤ 1000) (h : WsR s.data.toList 0 none) : WO s [] 250 := by
  by_cases hr : readA s = 0
  · exact .inr (.inl ⟨hr, wordsO_eq h, rfl, rfl⟩)
  · refine .inl ⟨hr, rfl, ?_⟩
    unfold readA at hr ⊢
    rw [if_neg (by omega)] at hr ⊢
    split
    · rename_i hc; rw [if_pos hc] at hr; exact (hr rfl).elim
    · rfl
theorem WO.of_some {s : ByteArray} {l : List (List UInt8 × Bool)} (hs : s.size ≤ 1000) (h : WsR s.data.toList 0 (some l)) : WO s l 0 := by
  refine .inr (.inr ⟨?_, wordsO_eq h, rfl⟩)
  unfold readA
  rw [if_neg (by omega), if_pos (pr_all (h.pr (Nat.zero_le _) l rfl))]
theorem WO.of_long {s : ByteArray} (hs : 1000 < s.size) : WO s [] 2 := by
  have : readA s = 2 := by unfold readA; rw [if_pos hs]
  exact .inl ⟨by rw [this]; decide, rfl, this.symm⟩

attribute [local irreducible] callO wopK ropK popK opK grpsE listE sx Runs

/-- between two words -/
def WI (s0 : St) (s : ByteArray) (vs : List Value) (st : St) : Prop :=
  ∃ (p : Nat) (l : List (List UInt8 × Bool)) (v u : Value), vs = [.string s, v, u, .int .i64 (p : Nat)] ∧ p ≤ s.size ∧ (∀ r, WsR s.data.toList p r → WsR s.data.toList 0 (r.map (l ++ ·))) ∧ l.length ≤ p ∧
    GroK 1 st v (wsS l) l.length ∧ GroK 1 st u (wsB l) l.length ∧ (ow v = 0 ∨ s0.next + 1 ≤ ow v) ∧ ow v ≤ st.next ∧ (ow u = 0 ∨ s0.next + 1 ≤ ow u) ∧ ow u ≤ st.next ∧ (ow v = 0 ∨ ow v ≠ ow u) ∧ Frm s0 st

section
variable {st : St} {K : Value → St → Prop}

set_option maxHeartbeats 8000000 in
theorem kWordsR (n : Nat) (s : ByteArray) (hs : s.size ≤ 80000)
    (h : ∀ l e v u st', WO s l e → Cel st' v (wsS l) → Cel st' u (wsB l) → ow v ≤ st'.next ∧ ow u ≤ st'.next → Frm st st' → K (.tuple #[v, u, .int .i64 e]) st') :
    callK (callO T0 orc fns 100000 (n + 2)) 22 [.string s] st K := by
  refine fn_runs (fn := g22) ?_ ?_ ?_
  · rfl
  · rfl
  unfold g22
  have hsz := size_list s
  simp (disch := omega) only [↓sxA, ↓wk_store, sxB, sxP, Nat.reduceLeDiff, reduceCtorEq, Nat.reduceEqDiff, Nat.reduceAdd, Int.reduceLT, Int.reduceLE, Int.reduceEq, Nat.reduceLT, Int.reduceToNat, Int.reduceAdd, Int.reduceSub, ↓reduceIte]
  refine iteI (fun c => ?_) (fun c => ?_)
  · exact h [] 2 _ _ st (WO.of_long (by omega)) (.inl ⟨rfl, rfl⟩) (.inl ⟨rfl, rfl⟩) ⟨Nat.zero_le _, Nat.zero_le _⟩ (Frm.refl _)
  refine loop_rule [0, 5, 6, 7] (WI st s) (fun vs _ => match lget vs 3 with
      | .int _ k => ((s.size : Int) - k).toNat
      | _ => 0) ?_ ?_ ?_
  · rfl
  · refine ⟨_, rfl, ⟨0, [], _, _, rfl, Nat.zero_le _, fun r hr => by cases r <;> simpa using hr, Nat.le_refl _, GroK.nil _ _, GroK.nil _ _, .inl rfl, Nat.zero_le _, .inl rfl, Nat.zero_le _, .inl rfl, Frm.refl _⟩, ?_⟩
    show ((s.size : Int) - 0).toNat < 100000
    omega
  · rintro vs s1 ⟨p, l, v, u, rfl, hp, hW, hl, g1, g2, o1, o2, o3, o4, o5, F⟩
    show sx _ _ _ _ _ [(0, _), (5, _), (6, _), (7, _)] _ _ _ _
    have hpL : p ≤ s.data.toList.length := by omega
    simp (disch := omega) only [↓sxA, ↓wk_store, sxB, sxP, Nat.reduceLeDiff, reduceCtorEq, Nat.reduceEqDiff, Nat.reduceAdd, Int.reduceLT, Int.reduceLE, Int.reduceEq, Nat.reduceLT, Int.reduceToNat, Int.reduceAdd, Int.reduceSub, ↓reduceIte]
    refine kNextR n s hs p hp fun w more good s2 hwd F2 => ?_
    unfold WdR at hwd
    split at hwd
    · -- the end
      rename_i hn
      obtain ⟨rfl, rfl, rfl⟩ := hwd
      obtain ⟨s4, st4, hb4, n4, G4⟩ := wdBox4 s2 (.string .empty) (.bool false) (.int .i64 0) (.int .i64 0) rfl rfl rfl rfl
      simp (disch := omega) only [↓sxA, ↓wk_store, sxB, sxP, Nat.reduceLeDiff, reduceCtorEq, Nat.reduceEqDiff, Nat.reduceAdd, Int.reduceLT, Int.reduceLE, Int.reduceEq, Nat.reduceLT, Int.reduceToNat, Int.reduceAdd, Int.reduceSub, ↓reduceIte, ↓st4]
      have Fx := F2.trans G4
      have hw0 := hW _ (.fin hn)
      rw [Option.map_some, List.append_nil] at hw0
      refine h l 0 v u s4 (WO.of_some (by omega) hw0) (g1.keep fun i hi => Fx.old i (by omega)).cel.1 (g2.keep fun i hi => Fx.old i (by omega)).cel.1 ⟨by have := Fx.nx; omega, by have := Fx.nx; omega⟩ (F.trans Fx)
    · -- the error
      rename_i fr hn
      obtain ⟨rfl, rfl, ws, qq, tt, rfl⟩ := hwd
      obtain ⟨s4, st4, hb4, n4, G4⟩ := wdBox4 s2 (.string ws) (.bool qq) (.int .i64 (fr : Nat)) (.int .i64 tt) rfl rfl rfl rfl
      simp (disch := omega) only [↓sxA, ↓wk_store, sxB, sxP, Nat.reduceLeDiff, reduceCtorEq, Nat.reduceEqDiff, Nat.reduceAdd, Int.reduceLT, Int.reduceLE, Int.reduceEq, Nat.reduceLT, Int.reduceToNat, Int.reduceAdd, Int.reduceSub, ↓reduceIte, ↓st4]
      have Fx := F2.trans G4
      have hw0 := hW _ (.bad hn)
      exact h [] 250 _ _ s4 (WO.of_none (by omega) hw0) (.inl ⟨rfl, rfl⟩) (.inl ⟨rfl, rfl⟩) ⟨Nat.zero_le _, Nat.zero_le _⟩ (F.trans Fx)
    · -- a word
      rename_i w q fr to hn
      obtain ⟨rfl, rfl, rfl⟩ := hwd
      obtain ⟨n1, n2, n3, n4, n5⟩ := nxt_wd hpL hn
      obtain ⟨s4, st4, hb4, m4, G4⟩ := wdBox4 s2 (.string (bs w)) (.bool q) (.int .i64 (fr : Nat)) (.int .i64 (to : Nat)) rfl rfl rfl rfl
      have Fx := F2.trans G4
      have c0 := hb4
      simp (disch := omega) only [↓sxA, ↓wk_store, sxB, sxP, Nat.reduceLeDiff, reduceCtorEq, Nat.reduceEqDiff, Nat.reduceAdd, Int.reduceLT, Int.reduceLE, Int.reduceEq, Nat.reduceLT, Int.reduceToNat, Int.reduceAdd, Int.reduceSub, ↓reduceIte, ↓st4, hb4]
      refine appendK (n := l.length) (g1.keep fun i hi => ?_) (get_new_same _ _) rfl (by decide) rfl (by omega) (by omega) fun s5 a1 a2 a3 => ?_
      · rw [get_new_ne _ _ _ (by have := Fx.nx; omega)]; exact Fx.old i (by omega)
      have e5 : s5.next = s4.next + 2 := a2
      have nx1 := Fx.nx
      have nx2 := F2.nx
      have fr5 : ∀ i, i + 1 ≠ ow v → i < s4.next → s5.get i = s4.get i := fun i h1 h2 => (a3 i h1 (by show i < s4.next + 1; omega)).trans (get_new_ne _ _ _ (by omega))
      have x5 : s5.get s2.next = some (.row [.string (bs w), .bool q, .int .i64 (fr : Nat), .int .i64 (to : Nat)] 0 false) := (fr5 _ (by omega) (by omega)).trans hb4
      simp (disch := omega) only [↓sxA, ↓wk_store, sxB, sxP, Nat.reduceLeDiff, reduceCtorEq, Nat.reduceEqDiff, Nat.reduceAdd, Int.reduceLT, Int.reduceLE, Int.reduceEq, Nat.reduceLT, Int.reduceToNat, Int.reduceAdd, Int.reduceSub, ↓reduceIte, x5]
      refine appendK (n := l.length) (g2.keep fun i hi => ?_) (get_new_same _ _) rfl (by decide) rfl (by omega) (by omega) fun s6 b1 b2 b3 => ?_
      · rw [get_new_ne _ _ _ (by omega), fr5 i (by omega) (by omega)]; exact Fx.old i (by omega)
      have e6 : s6.next = s5.next + 2 := b2
      have fr6 : ∀ i, i + 1 ≠ ow u → i < s5.next → s6.get i = s5.get i := fun i h1 h2 => (b3 i h1 (by show i < s5.next + 1; omega)).trans (get_new_ne _ _ _ (by omega))
      have x6 : s6.get s2.next = some (.row [.string (bs w), .bool q, .int .i64 (fr : Nat), .int .i64 (to : Nat)] 0 false) := (fr6 _ (by omega) (by omega)).trans x5
      simp (disch := omega) only [↓sxA, ↓wk_store, sxB, sxP, Nat.reduceLeDiff, reduceCtorEq, Nat.reduceEqDiff, Nat.reduceAdd, Int.reduceLT, Int.reduceLE, Int.reduceEq, Nat.reduceLT, Int.reduceToNat, Int.reduceAdd, Int.reduceSub, ↓reduceIte, x6]
      have hS : wsS l ++ [.string (bs w)] = wsS (l ++ [(w, q)]) := by simp [wsS]
      have hB : wsB l ++ [.bool q] = wsB (l ++ [(w, q)]) := by simp [wsB]
      have hLn : l.length + 1 = (l ++ [(w, q)]).length := by simp
      refine ⟨_, rfl, ⟨to, l ++ [(w, q)], .slice (some ⟨s4.next + 1, 0, none⟩) (l.length + 1) (l.length + 1), .slice (some ⟨s5.next + 1, 0, none⟩) (l.length + 1) (l.length + 1), rfl, by omega, fun r hr => ?_, by simp; omega, ?_, ?_, .inr ?_, ?_, .inr ?_, ?_, .inr ?_, ?_⟩, ?_⟩
      · have := hW _ (.wd hn hr)
        cases r with
        | none => simpa using this
        | some r => simpa using this
      · rw [← hS, ← hLn]
        exact a1.keep fun i hi => fr6 i (by show i + 1 ≠ ow u; have : i + 1 = s4.next + 1 + 1 := hi; omega) (by have : i + 1 = s4.next + 1 + 1 := hi; omega)
      · rw [← hB, ← hLn]
        exact b1
      · show st.next + 1 ≤ s4.next + 1 + 1
        have := F.nx
        omega
      · show s4.next + 1 + 1 ≤ s6.next
        omega
      · show st.next + 1 ≤ s5.next + 1 + 1
        have := F.nx
        omega
      · show s5.next + 1 + 1 ≤ s6.next
        omega
      · show s4.next + 1 + 1 ≠ s5.next + 1 + 1
        omega
      · have fn := F.nx
        exact ⟨by omega, fun i hi => (fr6 i (by omega) (by omega)).trans ((fr5 i (by omega) (by omega)).trans ((Fx.old i (by omega)).trans (F.old i hi)))⟩
      · show ((s.size : Int) - (to : Nat)).toNat < ((s.size : Int) - (p : Nat)).toNat
        omega
end
end Go.Proofs.YtdmemibnphcedaaGreatDoor
end
section
set_option linter.unusedSimpArgs false
set_option linter.unusedVariables false
set_option maxRecDepth 10000
set_option linter.unusedSectionVars false
namespace Go.Proofs.YtdmemibnphcedaaGreatDoor
open Go.Am
attribute [local irreducible] callO wopK ropK popK opK grpsE listE sx Runs

/-! ### values are no longer than the line, and there are no more of them -/
def Sm (L : List UInt8) (m : Nat) (cs : List Cl) : Prop := ∀ k, (clAt cs k).vals.length ≤ m ∧ ∀ v, v ∈ (clAt cs k).vals → v.size ≤ L.length + 1
theorem Sm.upd {L : List UInt8} {m m' : Nat} {cs : List Cl} (h : Sm L m cs) (k : Nat) (f : Cl → Cl) (hm : m ≤ m') (h1 : (f (clAt cs k)).vals.length ≤ m') (h2 : ∀ v, v ∈ (f (clAt cs k)).vals → v.size ≤ L.length + 1) : Sm L m' (upd' cs k f) := fun i => by
  by_cases e : k = i
  · subst e
    by_cases hk : k < cs.length
    · rw [upd_same _ _ _ hk]; exact ⟨h1, h2⟩
    · have : upd' cs k f = cs := List.set_eq_of_length_le (by omega)
      rw [this]; exact ⟨Nat.le_trans (h k).1 hm, (h k).2⟩
  · rw [upd_ne _ _ _ _ e]; exact ⟨Nat.le_trans (h i).1 hm, (h i).2⟩
theorem Sm.mono {L : List UInt8} {m m' : Nat} {cs : List Cl} (h : Sm L m cs) (hm : m ≤ m') : Sm L m' cs := fun i => ⟨Nat.le_trans (h i).1 hm, (h i).2⟩
theorem Sm.push {L : List UInt8} {m : Nat} {cs : List Cl} (h : Sm L m cs) (k : Nat) {w : List UInt8} (hw : w.length ≤ L.length + 1) : Sm L (m + 1) (upd' cs k (Cl.push (bs w))) := by
  refine h.upd k _ (Nat.le_succ _) (by have := (h k).1; simp [Cl.push]; omega) fun v hv => ?_
  rcases List.mem_append.1 hv with hv | hv
  · exact (h k).2 v hv
  · rw [List.mem_singleton.1 hv, bs_size]; exact hw
theorem Sm.rest {L : List UInt8} {m : Nat} {cs : List Cl} (h : Sm L m cs) {p k : Nat} {r : Option (List Cl)} (hr : restA L p k cs = .done r) : ∀ cs', r = some cs' → Sm L (m + 1) cs' := by
  unfold restA at hr
  split at hr
  · cases hr
    rintro cs' ⟨⟩
    refine h.upd k _ (Nat.le_succ _) (by simp [Cl.one]) fun v hv => ?_
    rw [List.mem_singleton.1 hv, bs_size]
    have := trimE_le (L.drop p)
    rw [List.length_drop] at this
    omega
  · cases hr
    intro cs' hh
    cases hh
theorem rest_done {L : List UInt8} {p k : Nat} {cs : List Cl} {a : Nat} {b : List Cl} (h : restA L p k cs = .go a b) : False := by
  unfold restA at h
  split at h <;> cases h

theorem Sm.val {L : List UInt8} {l : List IM} {m fr : Nat} {cs : List Cl} {w : Option (List UInt8 × Bool × Nat)} (h : Sm L m cs) (hw : ∀ a b c, w = some (a, b, c) → a.length ≤ L.length + 1) : (∀ p' cs', valA L l fr w cs = .go p' cs' → Sm L (m + 1) cs') ∧ ∀ cs', valA L l fr w cs = .done (some cs') → Sm L (m + 1) cs' := by
  unfold valA
  split
  · exact ⟨fun _ _ h => (by cases h), fun _ h => (by cases h)⟩
  · split
    · exact ⟨fun _ _ h => (rest_done h).elim, fun cs' hh => h.rest hh cs' rfl⟩
    · split
      · exact ⟨fun _ _ h => (by cases h), fun _ h => (by cases h)⟩
      · rename_i s q to
        split
        · exact ⟨fun _ _ h => (by cases h), fun _ h => (by cases h)⟩
        · refine ⟨fun p' cs' hh => ?_, fun _ h => (by cases h)⟩
          cases hh
          exact h.push _ (hw s q to rfl)
theorem Sm.nam {L : List UInt8} {l : List IM} {m k p : Nat} {cs : List Cl} (h : Sm L m cs) : (∀ p' cs', namA L l k p cs = .go p' cs' → Sm L (m + 1) cs') ∧ ∀ cs', namA L l k p cs = .done (some cs') → Sm L (m + 1) cs' := by
  have hon : Sm L m (upd' cs k Cl.on) := h.upd k _ (Nat.le_refl _) (h k).1 (h k).2
  unfold namA
  split
  · exact ⟨fun _ _ h => (by cases h), fun _ h => (by cases h)⟩
  · split
    · refine ⟨fun p' cs' hh => ?_, fun _ h => (by cases h)⟩
      cases hh
      exact hon.mono (Nat.le_succ _)
    · split
      · exact ⟨fun _ _ h => (by cases h), fun _ h => (by cases h)⟩
      · split
        · exact ⟨fun _ _ h => (rest_done h).elim, fun cs' hh => hon.rest hh cs' rfl⟩
        · exact ⟨fun _ _ h => (by cases h), fun _ h => (by cases h)⟩
      · rename_i s q fr to hn
        split
        · exact ⟨fun _ _ h => (rest_done h).elim, fun cs' hh => hon.rest hh cs' rfl⟩
        · split
          · exact ⟨fun _ _ h => (by cases h), fun _ h => (by cases h)⟩
          · refine ⟨fun p' cs' hh => ?_, fun _ h => (by cases h)⟩
            cases hh
            exact hon.push _ (nxt_len hn)
theorem Sm.step {L : List UInt8} {l : List IM} {m p : Nat} {cs : List Cl} (h : Sm L m cs) : (∀ p' cs', stepA L l p cs = .go p' cs' → Sm L (m + 1) cs') ∧ ∀ cs', stepA L l p cs = .done (some cs') → Sm L (m + 1) cs' := by
  unfold stepA
  split
  · refine ⟨fun _ _ h => (by cases h), fun cs' hh => ?_⟩
    cases hh
    exact h.mono (Nat.le_succ _)
  · exact h.val fun a b c e => by cases e
  · rename_i s q fr to hn
    split
    · exact h.nam
    · refine h.val fun a b c e => ?_
      cases e
      exact nxt_len hn
section
variable {st : St} {K : Value → St → Prop}

end
end Go.Proofs.YtdmemibnphcedaaGreatDoor
end
