/-
  A region that draws its order: its operations, each pair of which waits or may be exchanged, come to the same in every order.
  Code and calls: what the second machine's run comes to, the first one's does.
  Symbolic runs of the second machine: what is asked of a run, out of its text, with the slots that are known in a list.
  What single operations of a symbolic run come to: equations for simp.
  How a run begins, and how a call that is known otherwise is taken in.
  More equations of symbolic runs: tests that part the run where they are made, aggregates, slices.
  Rows of bytes on the second machine: a slice's value and the bytes that it shows, what the operations on it come to; laws of symbolic runs that are settled by arithmetic.
  The laws of symbolic runs, bundled (simp takes a conjunction apart).
-/
import Derived.Test.YtdmemibnphcedaaGreatDoorRWrdClaimPart1
import Derived.LoopN
import Derived.Defers
section
set_option linter.unusedSimpArgs false
set_option linter.unusedVariables false
set_option maxRecDepth 10000
namespace Go.Am
open Go.RowKit (Below)

theorem Out.all_mono {α : Type} {p q : α → Prop} (h : ∀ a, p a → q a) : ∀ {o : Out α}, o.all p → o.all q
  | .ret a, hp => h a hp
  | .fail, hp => hp
  | .ask _ _, hp => ⟨hp.1, fun i hi => Out.all_mono h (hp.2 i hi)⟩
theorem Out.all_some {α : Type} {p : α → Prop} : ∀ {o : Out α}, o.all p → ∃ a, p a
  | .ret a, hp => ⟨a, hp⟩
  | .fail, hp => hp.elim
  | .ask _ _, hp => Out.all_some (hp.2 0 hp.1)
theorem Out.all_bind {α β : Type} {f : α → Out β} {p : β → Prop} : ∀ {o : Out α}, (o.bind f).all p ↔ o.all fun a => (f a).all p
  | .ret a => Iff.rfl
  | .fail => Iff.rfl
  | .ask n k => by
    simp only [Out.bind, Out.all]
    exact and_congr Iff.rfl (forall_congr' fun i => imp_congr Iff.rfl Out.all_bind)

section
variable {T : Tab} {F : CallF}

/-- an operation that reads at most: its value -/
def stepV (o : AOp) (vs : List Value) (s : St) : Option Value :=
  match o with
  | .p o => pop o vs
  | .r o => rop o vs s
  | _ => none

def YV (o : AOper) (l : List Value) (s : St) (v : Value) : Prop :=
  (wantedL o l = true ∧ stepV o.op (o.args.map (Arg.ev l)) s = some v) ∨ (wantedL o l = false ∧ v = undef)

theorem YV.unique {o : AOper} {l : List Value} {s : St} {u v : Value} (h : YV o l s u) (k : YV o l s v) : u = v := by
  rcases h with ⟨h1, h2⟩ | ⟨h1, h2⟩ <;> rcases k with ⟨k1, k2⟩ | ⟨k1, k2⟩
  · rw [h2] at k2; exact Option.some.inj k2
  · rw [h1] at k1; cases k1
  · rw [h1] at k1; cases k1
  · rw [h2, k2]

/-- operation number i is next -/
def oneOp (T : Tab) (F : CallF) (o : AOper) (l : List Value) (s : St) (C : List Value → St → Prop) : Prop :=
  if wantedL o l then (opStep T F o.op (o.args.map (Arg.ev l)) s).all fun r => C (putL l o.dst r.1) r.2 else C (putL l o.dst undef) s

theorem oneOp_mono {o : AOper} {l : List Value} {s : St} {C C' : List Value → St → Prop} (h : ∀ l s, C l s → C' l s) (k : oneOp T F o l s C) : oneOp T F o l s C' := by
  unfold oneOp at *
  split
  · rename_i hw; rw [if_pos hw] at k; exact Out.all_mono (fun r => h _ _) k
  · rename_i hw; rw [if_neg hw] at k; exact h _ _ k

theorem oneOp_reads {o : AOper} (hr : o.op.reads = true) {l : List Value} {s : St} {C : List Value → St → Prop} : oneOp T F o l s C ↔ ∃ v, YV o l s v ∧ C (putL l o.dst v) s := by
  unfold oneOp YV
  by_cases hw : wantedL o l = true
  · rw [if_pos hw]
    have hs : ∀ {q : AOp}, q.reads = true → (((opStep T F q (o.args.map (Arg.ev l)) s).all fun r => C (putL l o.dst r.1) r.2) ↔ ∃ v, stepV q (o.args.map (Arg.ev l)) s = some v ∧ C (putL l o.dst v) s) := fun {q} hq => by
      cases q <;> simp [AOp.reads] at hq
      · simp only [opStep, stepV]
        rename_i p
        cases hp : pop p (o.args.map (Arg.ev l)) <;> simp [Out.all]
      · simp only [opStep, stepV]
        rename_i p
        cases hp : rop p (o.args.map (Arg.ev l)) s <;> simp [Out.all]
    rw [hs hr]
    constructor
    · rintro ⟨v, h1, h2⟩; exact ⟨v, .inl ⟨hw, h1⟩, h2⟩
    · rintro ⟨v, h1 | h1, h2⟩
      · exact ⟨v, h1.2, h2⟩
      · rw [hw] at h1; cases h1.1
  · rw [if_neg hw]
    have hw' : wantedL o l = false := by simpa using hw
    constructor
    · intro h; exact ⟨undef, .inr ⟨hw', rfl⟩, h⟩
    · rintro ⟨v, h1 | h1, h2⟩
      · exact absurd h1.1 hw
      · rw [h1.2] at h2; exact h2

theorem lget_lset (v : Value) : ∀ (l : List Value) (d k : Nat), k ≠ d → lget (lset l d v) k = lget l k
  | [], _, _, _ => rfl
  | x :: l, 0, 0, h => absurd rfl h
  | x :: l, 0, k + 1, _ => rfl
  | x :: l, d + 1, 0, _ => rfl
  | x :: l, d + 1, k + 1, h => by simp only [lset, lget]; exact lget_lset v l d k (by omega)

theorem lset_comm (u v : Value) : ∀ (l : List Value) (d e : Nat), d ≠ e → lset (lset l d u) e v = lset (lset l e v) d u
  | [], _, _, _ => rfl
  | x :: l, 0, 0, h => absurd rfl h
  | x :: l, 0, k + 1, _ => rfl
  | x :: l, d + 1, 0, _ => rfl
  | x :: l, d + 1, k + 1, h => by simp only [lset]; rw [lset_comm u v l d k (by omega)]

theorem put_other {o : AOper} {d : Option Nat} (h : ∀ k, d = some k → k ∉ looks o) (l : List Value) (v : Value) : o.args.map (Arg.ev (putL l d v)) = o.args.map (Arg.ev l) ∧ wantedL o (putL l d v) = wantedL o l := by
  cases d with
  | none => exact ⟨rfl, rfl⟩
  | some k =>
    have hk := h k rfl
    simp only [looks, List.mem_append, List.mem_filterMap, not_or, not_exists, not_and] at hk
    refine ⟨List.map_congr_left fun x hx => ?_, ?_⟩
    · cases x with
      | t n =>
        simp only [Arg.ev, putL]
        exact lget_lset v l k n fun e => hk.1 (.t n) hx (by simp [e])
      | _ => rfl
    · unfold wantedL
      cases hg : o.guard with
      | none => rfl
      | some gw =>
        obtain ⟨g, want⟩ := gw
        have hne : g ≠ k := fun e => hk.2 (by rw [hg]; simp [e])
        simp only [yieldedL, putL]
        rw [lget_lset v l k g hne]

theorem putL_comm {x y : Option Nat} (h : ∀ d, x = some d → y ≠ some d) (l : List Value) (u v : Value) : putL (putL l x u) y v = putL (putL l y v) x u := by
  cases x with
  | none => rfl
  | some d =>
    cases y with
    | none => rfl
    | some e => exact lset_comm u v l d e fun he => h d rfl (by rw [he])

/-- two operations, apart and exchangeable -/
theorem oneOp_swap {oi oj : AOper} (h1 : ∀ d, oi.dst = some d → d ∉ looks oj) (h2 : ∀ d, oi.dst = some d → oj.dst ≠ some d) (h3 : ∀ d, oj.dst = some d → d ∉ looks oi) (hs : oi.op.swap oj.op = true) {l : List Value} {s : St} {C : List Value → St → Prop}
    (h : oneOp T F oi l s fun l s => oneOp T F oj l s C) : oneOp T F oj l s fun l s => oneOp T F oi l s C := by
  have yi : ∀ (u : Value) (s1 s2 : St) (v : Value), (oi.op.pure = true ∨ s1 = s2) → (YV oi (putL l oj.dst u) s1 v ↔ YV oi l s2 v) := fun u s1 s2 v hp => by
    obtain ⟨e1, e2⟩ := put_other h3 l u
    unfold YV
    rw [e1, e2]
    rcases hp with hp | rfl
    · cases hq : oi.op <;> rw [hq] at hp <;> simp [AOp.pure] at hp; rfl
    · rfl
  have yj : ∀ (u : Value) (s1 s2 : St) (v : Value), (oj.op.pure = true ∨ s1 = s2) → (YV oj (putL l oi.dst u) s1 v ↔ YV oj l s2 v) := fun u s1 s2 v hp => by
    obtain ⟨e1, e2⟩ := put_other h1 l u
    unfold YV
    rw [e1, e2]
    rcases hp with hp | rfl
    · cases hq : oj.op <;> rw [hq] at hp <;> simp [AOp.pure] at hp; rfl
    · rfl
  have pr : ∀ {q : AOp}, q.pure = true → q.reads = true := fun {q} hq => by cases q <;> simp [AOp.pure] at hq; rfl
  by_cases hip : oi.op.pure = true
  · rw [oneOp_reads (pr hip)] at h
    obtain ⟨v, hv, hj⟩ := h
    obtain ⟨e1, e2⟩ := put_other h1 l v
    unfold oneOp at hj ⊢
    rw [e1, e2] at hj
    have fin : ∀ (u : Value) (s1 : St), C (putL (putL l oi.dst v) oj.dst u) s1 → oneOp T F oi (putL l oj.dst u) s1 C := fun u s1 hc => by
      rw [oneOp_reads (pr hip)]
      exact ⟨v, (yi u s1 s v (.inl hip)).2 hv, by rw [putL_comm (fun d hd he => h2 d he hd)]; exact hc⟩
    split
    · rename_i hw; rw [if_pos hw] at hj; exact Out.all_mono (fun r => fin _ _) hj
    · rename_i hw; rw [if_neg hw] at hj; exact fin _ _ hj
  · by_cases hjp : oj.op.pure = true
    · rw [oneOp_reads (pr hjp)]
      unfold oneOp at h
      by_cases hw : wantedL oi l = true
      · rw [if_pos hw] at h
        have h' : (opStep T F oi.op (oi.args.map (Arg.ev l)) s).all fun r => ∃ u, YV oj l s u ∧ C (putL (putL l oi.dst r.1) oj.dst u) r.2 := Out.all_mono (fun r hr => by
          rw [show (fun (l : List Value) (s : St) => if wantedL oj l = true then (opStep T F oj.op (oj.args.map (Arg.ev l)) s).all fun r => C (putL l oj.dst r.1) r.2 else C (putL l oj.dst undef) s) = fun l s => oneOp T F oj l s C from rfl] at *
          have := (oneOp_reads (T := T) (F := F) (pr hjp)).1 hr
          obtain ⟨u, hu, hc⟩ := this
          exact ⟨u, (yj r.1 r.2 s u (.inl hjp)).1 hu, hc⟩) h
        obtain ⟨_, u, hu, _⟩ := Out.all_some h'
        refine ⟨u, hu, ?_⟩
        obtain ⟨e1, e2⟩ := put_other h3 l u
        unfold oneOp
        rw [e1, e2, if_pos hw]
        refine Out.all_mono (fun r hr => ?_) h'
        obtain ⟨u', hu', hc⟩ := hr
        rw [YV.unique hu hu', putL_comm (fun d hd he => h2 d he hd)]
        exact hc
      · rw [if_neg hw] at h
        obtain ⟨u, hu, hc⟩ := (oneOp_reads (T := T) (F := F) (pr hjp)).1 h
        refine ⟨u, (yj undef s s u (.inl hjp)).1 hu, ?_⟩
        obtain ⟨e1, e2⟩ := put_other h3 l u
        unfold oneOp
        rw [e2, if_neg hw, putL_comm (fun d hd he => h2 d he hd)]
        exact hc
    · have hir : oi.op.reads = true ∧ oj.op.reads = true := by
        simp only [AOp.swap, Bool.or_eq_true, Bool.and_eq_true] at hs
        rcases hs with (hs | hs) | hs
        · exact absurd hs hip
        · exact absurd hs hjp
        · exact hs
      rw [oneOp_reads hir.1] at h
      obtain ⟨v, hv, hj⟩ := h
      rw [oneOp_reads hir.2] at hj
      obtain ⟨u, hu, hc⟩ := hj
      rw [oneOp_reads hir.2]
      refine ⟨u, (yj v s s u (.inr rfl)).1 hu, ?_⟩
      rw [oneOp_reads hir.1]
      exact ⟨v, (yi u s s v (.inr rfl)).2 hv, by rw [putL_comm (fun d hd he => h2 d he hd)]; exact hc⟩

/-! ### whatever order the tape picks -/
def anyOrder (T : Tab) (F : CallF) (ops : Array Oper) (aops : List AOper) (K : List Value → St → Prop) : Nat → Array Bool → List Value → St → Prop
  | 0, listed, l, s => Region.ready .any ops listed = [] ∧ K l s
  | fuel + 1, listed, l, s => (Region.ready .any ops listed = [] → K l s) ∧
    ∀ i ∈ Region.ready .any ops listed, ∀ o, aops[i]? = some o → oneOp T F o l s (anyOrder T F ops aops K fuel (listed.setIfInBounds i true))

/-- what two operations of a region owe each other -/
def FreeOf (oi oj : AOper) : Prop := (∀ d, oi.dst = some d → d ∉ looks oj) ∧ (∀ d, oi.dst = some d → oj.dst ≠ some d) ∧ (∀ d, oj.dst = some d → d ∉ looks oi) ∧ oi.op.swap oj.op = true

/-- what is listed waits for nothing that is not -/
def Closed (ops : Array Oper) (listed : Array Bool) : Prop :=
  ∀ (k : Nat) (ok : Oper), ops[k]? = some ok → listed.getD k false = true → ∀ e ∈ ok.after, Region.binds .any e = true → listed.getD e.on false = true

theorem getD_tf {listed : Array Bool} {i : Nat} (h : listed.getD i false = true) : listed.getD i true = true := by
  rcases Nat.lt_or_ge i listed.size with h' | h'
  · simp [h'] at h ⊢; exact h
  · simp [Array.getElem?_eq_none h'] at h

theorem Closed.put {ops : Array Oper} {listed : Array Bool} (h : Closed ops listed) {j : Nat} (hj : j ∈ Region.ready .any ops listed) : Closed ops (listed.setIfInBounds j true) := by
  intro k ok hk hl e he hb
  obtain ⟨_, oj, hoj, hall⟩ := mem_ready.1 hj
  by_cases hjk : j = k
  · subst hjk
    rw [hoj] at hk
    cases hk
    exact getD_set_true (hall e he hb)
  · rw [getD_set_ne false hjk] at hl
    exact getD_set_true (h k ok hk hl e he hb)

theorem fold_bit (acc : List Nat) : ∀ (es : List Edge) (m i : Nat), (es.foldl (fun m e => bif Region.binds .any e then m ||| (1 <<< e.on) ||| (acc.getD e.on 0) else m) m).testBit i = true →
    m.testBit i = true ∨ ∃ e ∈ es, Region.binds .any e = true ∧ (e.on = i ∨ (acc.getD e.on 0).testBit i = true)
  | [], m, i, h => .inl h
  | e :: es, m, i, h => by
    simp only [List.foldl_cons] at h
    rcases fold_bit acc es _ i h with h | ⟨e', h1, h2, h3⟩
    · cases hb : Region.binds .any e with
      | false => rw [hb] at h; exact .inl h
      | true =>
        rw [hb] at h
        simp only [cond_true, Nat.testBit_or, Bool.or_eq_true] at h
        rcases h with (h | h) | h
        · exact .inl h
        · refine .inr ⟨e, by simp, hb, .inl ?_⟩
          rw [Nat.testBit_shiftLeft] at h
          simp only [Bool.and_eq_true, decide_eq_true_eq] at h
          obtain ⟨h1, h2⟩ := h
          have : i - e.on = 0 := by
            cases hd : i - e.on with
            | zero => rfl
            | succ n => rw [hd] at h2; simp [Nat.testBit_succ] at h2
          omega
        · exact .inr ⟨e, by simp, hb, .inr h⟩
    · exact .inr ⟨e', by simp [h1], h2, h3⟩

/-- what an operation whose own edges are listed waits for is listed -/
theorem ancs_listed {ops : Array Oper} {listed : Array Bool} (hc : Closed ops listed) : ∀ (os : List Oper) (acc : List Nat), (∀ j, os[j]? = ops[acc.length + j]?) →
    (∀ k, k < acc.length → ∀ ok, ops[k]? = some ok → (∀ e ∈ ok.after, Region.binds .any e = true → listed.getD e.on false = true) → ∀ i, (acc.getD k 0).testBit i = true → listed.getD i false = true) →
    ∀ k ok, ops[k]? = some ok → (∀ e ∈ ok.after, Region.binds .any e = true → listed.getD e.on false = true) → ∀ i, ((ancs os acc).getD k 0).testBit i = true → listed.getD i false = true
  | [], acc, hos, hacc, k, ok, hk, hall, i, hb => by
    simp only [ancs] at hb
    rcases Nat.lt_or_ge k acc.length with h | h
    · exact hacc k h ok hk hall i hb
    · rw [List.getD_eq_getElem?_getD, List.getElem?_eq_none h] at hb
      simp at hb
  | o :: os, acc, hos, hacc, k, ok, hk, hall, i, hb => by
    simp only [ancs] at hb
    have h0 : ops[acc.length]? = some o := by have := hos 0; simpa using this.symm
    refine ancs_listed hc os (acc ++ [ancOf acc o]) (fun j => ?_) (fun k hk ok hok hall i hb => ?_) k ok hk hall i hb
    · have := hos (j + 1)
      simp only [List.getElem?_cons_succ] at this
      rw [this]
      simp [Nat.add_assoc, Nat.add_comm 1 j]
    · simp only [List.length_append, List.length_cons, List.length_nil] at hk
      rcases Nat.lt_or_ge k acc.length with h | h
      · rw [List.getD_eq_getElem?_getD, List.getElem?_append_left h, ← List.getD_eq_getElem?_getD] at hb
        exact hacc k h ok hok hall i hb
      · have hke : k = acc.length := by omega
        subst hke
        rw [h0] at hok
        cases hok
        rw [List.getD_eq_getElem?_getD, List.getElem?_append_right (Nat.le_refl _)] at hb
        simp only [Nat.sub_self, List.getElem?_cons_zero, Option.getD_some] at hb
        rcases fold_bit acc _ 0 i hb with h1 | ⟨e, h1, h2, h3⟩
        · simp at h1
        · have hl := hall e (by simpa using h1) h2
          rcases h3 with h3 | h3
          · rw [← h3]; exact hl
          · rcases Nat.lt_or_ge e.on acc.length with h4 | h4
            · have : ∃ oe, ops[e.on]? = some oe := by
                have hlt : acc.length < ops.size := by
                  rcases Nat.lt_or_ge acc.length ops.size with hh | hh
                  · exact hh
                  · rw [Array.getElem?_eq_none hh] at h0; cases h0
                exact ⟨_, Array.getElem?_eq_getElem (by omega : e.on < ops.size)⟩
              obtain ⟨oe, hoe⟩ := this
              exact hacc e.on h4 oe hoe (fun e' he' hb' => hc e.on oe hoe hl e' he' hb') i h3
            · rw [List.getD_eq_getElem?_getD, List.getElem?_eq_none h4] at h3
              simp at h3

theorem any_first {ops : Array Oper} {aops : List AOper} {K : List Value → St → Prop} {i : Nat} {oi : AOper} (hi : aops[i]? = some oi) : ∀ (fuel : Nat) (listed : Array Bool) (l : List Value) (s : St), Closed ops listed →
    (∀ (j : Nat) (oj : Oper) (aj : AOper), ops[j]? = some oj → aops[j]? = some aj → j ≠ i → listed.getD j true = false → ((ancs ops.toList []).getD j 0).testBit i = false → FreeOf oi aj) →
    i ∈ Region.ready .any ops listed → oneOp T F oi l s (anyOrder T F ops aops K fuel (listed.setIfInBounds i true)) → anyOrder T F ops aops K (fuel + 1) listed l s := by
  intro fuel
  induction fuel with
  | zero =>
    intro listed l s _ _ hr H
    refine ⟨fun h => (by rw [h] at hr; cases hr), fun j hj o ho => ?_⟩
    by_cases hji : j = i
    · subst hji; rw [hi] at ho; cases ho; exact H
    · have h1 := ready_mono hj hji
      have : ∃ l s, anyOrder T F ops aops K 0 (listed.setIfInBounds i true) l s := by
        unfold oneOp at H
        split at H
        · obtain ⟨r, hr⟩ := Out.all_some H; exact ⟨_, _, hr⟩
        · exact ⟨_, _, H⟩
      obtain ⟨_, _, h2, _⟩ := this
      rw [h2] at h1
      cases h1
  | succ fuel ih =>
    intro listed l s hcl hfree hr H
    refine ⟨fun h => (by rw [h] at hr; cases hr), fun j hj o ho => ?_⟩
    by_cases hji : j = i
    · subst hji; rw [hi] at ho; cases ho; exact H
    · obtain ⟨hjun, oj, hoj, hall⟩ := mem_ready.1 hj
      have hnot : ((ancs ops.toList []).getD j 0).testBit i = false := by
        cases hb : ((ancs ops.toList []).getD j 0).testBit i with
        | false => rfl
        | true =>
          have h1 := getD_tf (ancs_listed hcl ops.toList [] (fun j => by simp) (fun k hk => absurd hk (by simp)) j oj hoj hall i hb)
          rw [(mem_ready.1 hr).1] at h1
          cases h1
      obtain ⟨f1, f2, f3, f4⟩ := hfree j oj o hoj ho hji hjun hnot
      have hjr := ready_mono hj hji
      have H' : oneOp T F oi l s fun l s => oneOp T F o l s (anyOrder T F ops aops K fuel ((listed.setIfInBounds i true).setIfInBounds j true)) :=
        oneOp_mono (fun l s h => h.2 j hjr o ho) H
      have hsw := oneOp_swap f1 f2 f3 f4 H'
      have hfree' : ∀ (k : Nat) (ok : Oper) (ak : AOper), ops[k]? = some ok → aops[k]? = some ak → k ≠ i → (listed.setIfInBounds j true).getD k true = false → ((ancs ops.toList []).getD k 0).testBit i = false → FreeOf oi ak := fun k ok ak hok hak hki hun hno => by
        refine hfree k ok ak hok hak hki ?_ hno
        by_cases hjk : j = k
        · subst hjk; exact hjun
        · rw [getD_set_ne true hjk] at hun; exact hun
      refine oneOp_mono (fun l s h => ih (listed.setIfInBounds j true) l s (hcl.put hj) hfree' (ready_mono hr (Ne.symm hji)) ?_) hsw
      rw [Array.setIfInBounds_comm _ _ hji]
      exact h

theorem any_lex {ops : Array Oper} {aops : List AOper} {K : List Value × St → Prop}
    (hfr : ∀ (i j : Nat) (oj : Oper) (ai aj : AOper), i < j → ops[j]? = some oj → aops[i]? = some ai → aops[j]? = some aj → ((ancs ops.toList []).getD j 0).testBit i = false → FreeOf ai aj) :
    ∀ (rest : List AOper) (k : Nat) (listed : Array Bool) (l : List Value) (s : St), Closed ops listed → (∀ j, rest[j]? = aops[k + j]?) → (∀ j, j < k → listed.getD j true = true) → Region.lexFrom .any ops rest.length k listed = true →
      (runOps T F rest l s).all K → anyOrder T F ops aops (fun l s => K (l, s)) rest.length listed l s
  | [], k, listed, l, s, _, _, _, hB, h => ⟨by simpa [Region.lexFrom] using hB, h⟩
  | o :: rest, k, listed, l, s, hcl, hr, hlt, hB, h => by
    have h0 : aops[k]? = some o := by simpa using (hr 0).symm
    simp only [List.length_cons, Region.lexFrom, Bool.and_eq_true] at hB
    obtain ⟨⟨hrd, hf⟩, hB'⟩ := hB
    have hks : k < listed.size := by
      have := (mem_ready.1 (by simpa using hrd : k ∈ Region.ready .any ops listed)).1
      rcases Nat.lt_or_ge k listed.size with h' | h'
      · exact h'
      · simp [Array.getElem?_eq_none h'] at this
    have hkr : k ∈ Region.ready .any ops listed := by simpa using hrd
    have ih := fun l s => any_lex (K := K) hfr rest (k + 1) (listed.setIfInBounds k true) l s (hcl.put hkr)
    have hr' : ∀ j, rest[j]? = aops[k + 1 + j]? := fun j => by have := hr (j + 1); simpa [Nat.add_assoc, Nat.add_comm 1 j] using this
    have hlt' : ∀ j, j < k + 1 → (listed.setIfInBounds k true).getD j true = true := fun j hj => by
      by_cases hjk : j = k
      · subst hjk; simp [hks]
      · rw [getD_set_ne true (Ne.symm hjk)]; exact hlt j (by omega)
    refine any_first h0 rest.length listed l s hcl (fun j oj aj hoj haj hjk hun hno => ?_) (by simpa using hrd) ?_
    · have hkj : k < j := by
        rcases Nat.lt_or_ge k j with h' | h'
        · exact h'
        · have := hlt j (by omega)
          rw [hun] at this
          cases this
      exact hfr k j oj o aj hkj hoj h0 haj hno
    · simp only [runOps] at h
      unfold oneOp
      split
      · rename_i hw
        rw [if_pos hw, Out.all_bind] at h
        exact Out.all_mono (fun r hr0 => ih _ _ hr' hlt' hB' hr0) h
      · rename_i hw
        rw [if_neg hw] at h
        exact ih _ _ hr' hlt' hB' h

/-! ### reads that are asked for again -/
/-- what was read is still there -/
def Chk (o : AOper) (l : List Value) (s : St) : Prop := wantedL o l = true → ∃ d, o.dst = some d ∧ stepV o.op (o.args.map (Arg.ev l)) s = some (lget l d)

def Win (m : List Nat) (aops : List AOper) (i j : Nat) : Prop :=
  ∃ ai aj, aops[i]? = some ai ∧ aops[j]? = some aj ∧ i < j ∧ isLoad ai = true ∧ aj.op.reads = false ∧ (m.getD j 0).testBit i = false

/-- y doesn't look at x's slot, nor has it -/
def Unseen (x y : AOper) : Prop := ∀ d, x.dst = some d → d ∉ looks y ∧ y.dst ≠ some d

def FreeOf2 (oi oj : AOper) : Prop := Unseen oi oj ∧ (∀ d, oj.dst = some d → d ∉ looks oi) ∧ (oi.op.swap oj.op = true ∨ (isLoad oi = true ∧ oj.op.reads = false))

def anyC (T : Tab) (F : CallF) (ops : Array Oper) (aops : List AOper) (K : List Value → St → Prop) : Nat → Array Bool → List Value → St → Prop
  | 0, listed, l, s => Region.ready .any ops listed = [] ∧ K l s
  | fuel + 1, listed, l, s => (Region.ready .any ops listed = [] → K l s) ∧
    ∀ i ∈ Region.ready .any ops listed, ∀ o, aops[i]? = some o → oneOp T F o l s fun l s => (∀ k ok, listed.getD k false = true → aops[k]? = some ok → Win (ancs ops.toList []) aops k i → Chk ok l s) ∧ anyC T F ops aops K fuel (listed.setIfInBounds i true) l s

theorem anyC_order {ops : Array Oper} {aops : List AOper} {K : List Value → St → Prop} : ∀ (fuel : Nat) (listed : Array Bool) (l : List Value) (s : St), anyC T F ops aops K fuel listed l s → anyOrder T F ops aops K fuel listed l s
  | 0, _, _, _, h => h
  | fuel + 1, listed, l, s, h => ⟨h.1, fun i hi o ho => oneOp_mono (fun l s h => anyC_order fuel _ l s h.2) (h.2 i hi o ho)⟩

theorem lget_lset_at (v : Value) : ∀ (l : List Value) (d : Nat), d < l.length → lget (lset l d v) d = v
  | [], d, h => by simp at h
  | x :: l, 0, _ => rfl
  | x :: l, d + 1, h => by simp only [lset, lget]; exact lget_lset_at v l d (by simpa using h)
theorem lset_len (v : Value) : ∀ (l : List Value) (d : Nat), (lset l d v).length = l.length
  | [], _ => rfl
  | x :: l, 0 => rfl
  | x :: l, d + 1 => by simp only [lset, List.length_cons, lset_len v l d]
theorem putL_length (l : List Value) (d : Option Nat) (v : Value) : (putL l d v).length = l.length := by
  cases d with
  | none => rfl
  | some d => exact lset_len v l d

theorem Chk.put {o x : AOper} (h : Unseen x o) (l : List Value) (v : Value) (s : St) : Chk o (putL l x.dst v) s ↔ Chk o l s := by
  obtain ⟨e1, e2⟩ := put_other (o := o) (d := x.dst) (fun d hd => (h d hd).1) l v
  unfold Chk
  rw [e1, e2]
  cases hx : x.dst with
  | none => exact Iff.rfl
  | some d =>
    have : ∀ e, o.dst = some e → lget (putL l (some d) v) e = lget l e := fun e he => lget_lset v l d e fun hh => (h d hx).2 (by rw [he, hh])
    constructor
    · intro k hw
      obtain ⟨e, h1, h2⟩ := k hw
      exact ⟨e, h1, by rw [this e h1] at h2; exact h2⟩
    · intro k hw
      obtain ⟨e, h1, h2⟩ := k hw
      exact ⟨e, h1, by rw [this e h1]; exact h2⟩

theorem isLoad_reads {o : AOper} (h : isLoad o = true) : o.op.reads = true ∧ o.op.pure = false := by
  unfold isLoad at h
  split at h
  · rename_i hq; rw [hq]; exact ⟨rfl, rfl⟩
  · cases h

theorem Win.noread {m : List Nat} {aops : List AOper} {i j : Nat} (h : Win m aops i j) {o : AOper} (ho : aops[j]? = some o) (hr : o.op.reads = true) : False := by
  obtain ⟨_, aj, _, h2, _, _, h5, _⟩ := h
  rw [ho] at h2
  cases h2
  rw [hr] at h5
  cases h5

/-- what holds of a region whose reads are asked for again -/
structure Stat (ops : Array Oper) (aops : List AOper) (N : Nat) : Prop where
  free : ∀ (i j : Nat) (oj : Oper) (ai aj : AOper), i < j → ops[j]? = some oj → aops[i]? = some ai → aops[j]? = some aj → ((ancs ops.toList []).getD j 0).testBit i = false → FreeOf2 ai aj
  self : ∀ (k : Nat) (ok : AOper), aops[k]? = some ok → isLoad ok = true → ∀ d, ok.dst = some d → d ∉ looks ok
  safe : ∀ (k j : Nat) (ok oj : AOper), k < j → aops[k]? = some ok → aops[j]? = some oj → isLoad ok = true → Unseen oj ok
  dst : ∀ (k : Nat) (ok : AOper), aops[k]? = some ok → isLoad ok = true → ∀ d, ok.dst = some d → d < N
  same : ∀ k : Nat, aops[k]?.isSome = ops[k]?.isSome

/-- two operations change places, what is asked for with them -/
theorem oneOp_swapC {oi oj : AOper} {N : Nat} (hf : FreeOf2 oi oj) (hself : isLoad oi = true → ∀ d, oi.dst = some d → d ∉ looks oi) (hdst : isLoad oi = true → ∀ d, oi.dst = some d → d < N) {l : List Value} (hl : l.length = N) {s : St}
    {A A' B B' : List Value → St → Prop} {C : List Value → St → Prop}
    (hAr : oi.op.reads = true → ∀ l s, A' l s) (hBr : oj.op.reads = true → ∀ l s, B' l s)
    (hA : oi.op.reads = false → oj.op.pure = true → ∀ l v s, A l s → A' (putL l oj.dst v) s)
    (hB : ∀ l v s, l.length = N → B (putL l oi.dst v) s → B' l s) (hBc : isLoad oi = true → oj.op.reads = false → ∀ l s, B l s → Chk oi l s)
    (h : oneOp T F oi l s fun l s => A l s ∧ oneOp T F oj l s fun l s => B l s ∧ C l s) :
    oneOp T F oj l s fun l s => B' l s ∧ oneOp T F oi l s fun l s => A' l s ∧ C l s := by
  obtain ⟨hu, hji, hs⟩ := hf
  have h1 : ∀ d, oi.dst = some d → d ∉ looks oj := fun d hd => (hu d hd).1
  have h2 : ∀ d, oi.dst = some d → oj.dst ≠ some d := fun d hd => (hu d hd).2
  have pr : ∀ {q : AOp}, q.pure = true → q.reads = true := fun {q} hq => by cases q <;> simp [AOp.pure] at hq; rfl
  have comm : ∀ u v, putL (putL l oi.dst v) oj.dst u = putL (putL l oj.dst u) oi.dst v := fun u v => putL_comm h2 l v u
  -- what reads reads the same where nothing but the other's slot is another
  have yi : ∀ (u : Value) (s1 s2 : St) (v : Value), (oi.op.pure = true ∨ s1 = s2) → (YV oi (putL l oj.dst u) s1 v ↔ YV oi l s2 v) := fun u s1 s2 v hp => by
    obtain ⟨e1, e2⟩ := put_other hji l u
    unfold YV
    rw [e1, e2]
    rcases hp with hp | rfl
    · cases hq : oi.op <;> rw [hq] at hp <;> simp [AOp.pure] at hp; rfl
    · rfl
  have yj : ∀ (u : Value) (s1 s2 : St) (v : Value), (oj.op.pure = true ∨ s1 = s2) → (YV oj (putL l oi.dst u) s1 v ↔ YV oj l s2 v) := fun u s1 s2 v hp => by
    obtain ⟨e1, e2⟩ := put_other h1 l u
    unfold YV
    rw [e1, e2]
    rcases hp with hp | rfl
    · cases hq : oj.op <;> rw [hq] at hp <;> simp [AOp.pure] at hp; rfl
    · rfl
  by_cases hir : oi.op.reads = true
  · rw [oneOp_reads hir] at h
    obtain ⟨v, hv, _, hj⟩ := h
    -- it reads the same behind the other one
    have again : ∀ (u : Value) (s1 : St), (B (putL (putL l oi.dst v) oj.dst u) s1) → (oi.op.pure = true ∨ s1 = s ∨ (isLoad oi = true ∧ oj.op.reads = false)) → YV oi (putL l oj.dst u) s1 v := fun u s1 hb hh => by
      rcases hh with hh | hh | hh
      · exact (yi u s1 s v (.inl hh)).2 hv
      · exact (yi u s1 s v (.inr hh)).2 hv
      · have hc := hBc hh.1 hh.2 _ _ hb
        rw [comm] at hc
        obtain ⟨e1, e2⟩ := put_other (hself hh.1) (putL l oj.dst u) v
        obtain ⟨e3, e4⟩ := put_other hji l u
        rcases hv with ⟨w1, w2⟩ | ⟨w1, w2⟩
        · left
          refine ⟨by rw [e4]; exact w1, ?_⟩
          obtain ⟨d, hd, hval⟩ := hc (by rw [e2, e4]; exact w1)
          rw [e1, hd] at hval
          have : lget (putL (putL l oj.dst u) (some d) v) d = v := lget_lset_at v _ d (by rw [putL_length, hl]; exact hdst hh.1 d hd)
          rw [this] at hval
          exact hval
        · exact .inr ⟨by rw [e4]; exact w1, w2⟩
    obtain ⟨e1, e2⟩ := put_other h1 l v
    unfold oneOp at hj ⊢
    rw [e1, e2] at hj
    have fin : ∀ (u : Value) (s1 : St), (oi.op.pure = true ∨ s1 = s ∨ (isLoad oi = true ∧ oj.op.reads = false)) → B (putL (putL l oi.dst v) oj.dst u) s1 ∧ C (putL (putL l oi.dst v) oj.dst u) s1 → B' (putL l oj.dst u) s1 ∧ oneOp T F oi (putL l oj.dst u) s1 fun l s => A' l s ∧ C l s := fun u s1 hh hc => by
      refine ⟨hB _ v s1 (by rw [putL_length]; exact hl) (by rw [← comm]; exact hc.1), ?_⟩
      rw [oneOp_reads hir]
      exact ⟨v, again u s1 hc.1 hh, hAr hir _ _, by rw [← comm]; exact hc.2⟩
    have hcase : oi.op.pure = true ∨ oj.op.reads = true ∨ (isLoad oi = true ∧ oj.op.reads = false) := by
      rcases hs with hs | hs
      · simp only [AOp.swap, Bool.or_eq_true, Bool.and_eq_true] at hs
        rcases hs with (hs | hs) | hs
        · exact .inl hs
        · exact .inr (.inl (pr hs))
        · exact .inr (.inl hs.2)
      · exact .inr (.inr hs)
    split
    · rename_i hw
      rw [if_pos hw] at hj
      rcases hcase with hp | hr | hd
      · exact Out.all_mono (fun r => fin _ _ (.inl hp)) hj
      · -- both read: the heap is as it was
        have hj' : oneOp T F oj (putL l oi.dst v) s fun l1 s1 => B l1 s1 ∧ C l1 s1 := by
          unfold oneOp
          rw [e1, e2, if_pos hw]
          exact hj
        rw [oneOp_reads hr] at hj'
        obtain ⟨u, hu', hc⟩ := hj'
        have hu2 := (yj v s s u (.inr rfl)).1 hu'
        have : oneOp T F oj l s fun l s => B' l s ∧ oneOp T F oi l s fun l s => A' l s ∧ C l s := by
          rw [oneOp_reads hr]
          exact ⟨u, hu2, fin u s (.inr (.inl rfl)) hc⟩
        unfold oneOp at this
        rw [if_pos hw] at this
        exact this
      · exact Out.all_mono (fun r => fin _ _ (.inr (.inr hd))) hj
    · rename_i hw
      rw [if_neg hw] at hj
      exact fin undef s (.inr (.inl rfl)) hj
  · -- it turns the heap: the other one is pure
    have hjp : oj.op.pure = true := by
      rcases hs with hs | hs
      · simp only [AOp.swap, Bool.or_eq_true, Bool.and_eq_true] at hs
        rcases hs with (hs | hs) | hs
        · exact absurd (pr hs) hir
        · exact hs
        · exact absurd hs.1 hir
      · exact absurd (isLoad_reads hs.1).1 hir
    have hir' : oi.op.reads = false := by simpa using hir
    rw [oneOp_reads (pr hjp)]
    have step : ∀ (v : Value) (s1 : St), (A (putL l oi.dst v) s1 ∧ oneOp T F oj (putL l oi.dst v) s1 fun l s => B l s ∧ C l s) → ∃ u, YV oj l s u ∧ A' (putL (putL l oj.dst u) oi.dst v) s1 ∧ C (putL (putL l oj.dst u) oi.dst v) s1 := fun v s1 hh => by
      obtain ⟨u, hu', hc⟩ := (oneOp_reads (pr hjp)).1 hh.2
      refine ⟨u, (yj v s1 s u (.inl hjp)).1 hu', ?_⟩
      rw [← comm]
      exact ⟨hA hir' hjp _ u s1 hh.1, hc.2⟩
    unfold oneOp at h
    by_cases hw : wantedL oi l = true
    · rw [if_pos hw] at h
      have h' := Out.all_mono (fun r hr => step r.1 r.2 hr) h
      obtain ⟨_, u, hu', _⟩ := Out.all_some h'
      refine ⟨u, hu', hBr (pr hjp) _ _, ?_⟩
      obtain ⟨e1, e2⟩ := put_other hji l u
      unfold oneOp
      rw [e1, e2, if_pos hw]
      refine Out.all_mono (fun r hr => ?_) h'
      obtain ⟨u', hu2, hc⟩ := hr
      rw [YV.unique hu' hu2]
      exact hc
    · rw [if_neg hw] at h
      obtain ⟨u, hu', hc⟩ := step undef s h
      refine ⟨u, hu', hBr (pr hjp) _ _, ?_⟩
      obtain ⟨e1, e2⟩ := put_other hji l u
      unfold oneOp
      rw [e2, if_neg hw]
      exact hc

theorem any_firstC {ops : Array Oper} {aops : List AOper} {N : Nat} (S : Stat ops aops N) {K : List Value → St → Prop} {i : Nat} {oi : AOper} (hi : aops[i]? = some oi) : ∀ (fuel : Nat) (listed : Array Bool) (l : List Value) (s : St), Closed ops listed → l.length = N →
    (∀ j, j < i → listed.getD j true = true) → i ∈ Region.ready .any ops listed →
    (oneOp T F oi l s fun l s => (∀ k ok, listed.getD k false = true → aops[k]? = some ok → Win (ancs ops.toList []) aops k i → Chk ok l s) ∧ anyC T F ops aops K fuel (listed.setIfInBounds i true) l s) → anyC T F ops aops K (fuel + 1) listed l s := by
  intro fuel
  induction fuel with
  | zero =>
    intro listed l s _ _ _ hr H
    refine ⟨fun h => (by rw [h] at hr; cases hr), fun j hj o ho => ?_⟩
    by_cases hji : j = i
    · subst hji; rw [hi] at ho; cases ho; exact H
    · have h1 := ready_mono hj hji
      have : ∃ l s, anyC T F ops aops K 0 (listed.setIfInBounds i true) l s := by
        unfold oneOp at H
        split at H
        · obtain ⟨r, hr⟩ := Out.all_some H; exact ⟨_, _, hr.2⟩
        · exact ⟨_, _, H.2⟩
      obtain ⟨_, _, h2, _⟩ := this
      rw [h2] at h1
      cases h1
  | succ fuel ih =>
    intro listed l s hcl hlen hmin hr H
    refine ⟨fun h => (by rw [h] at hr; cases hr), fun j hj o ho => ?_⟩
    by_cases hji : j = i
    · subst hji; rw [hi] at ho; cases ho; exact H
    · obtain ⟨hjun, oj, hoj, hall⟩ := mem_ready.1 hj
      obtain ⟨hiun, _⟩ := mem_ready.1 hr
      have hij : i < j := by
        rcases Nat.lt_or_ge i j with h' | h'
        · exact h'
        · have := hmin j (by omega)
          rw [hjun] at this
          cases this
      have wait : ∀ k ok', ops[k]? = some ok' → (∀ e ∈ ok'.after, Region.binds .any e = true → listed.getD e.on false = true) → ((ancs ops.toList []).getD k 0).testBit i = false := fun k ok' hk hal => by
        cases hb : ((ancs ops.toList []).getD k 0).testBit i with
        | false => rfl
        | true =>
          have h1 := getD_tf (ancs_listed hcl ops.toList [] (fun j => by simp) (fun k hk => absurd hk (by simp)) k ok' hk hal i hb)
          rw [hiun] at h1
          cases h1
      have hfree := S.free i j oj oi o hij hoj hi ho (wait j oj hoj hall)
      have hjr := ready_mono hj hji
      have hlisted : ∀ k, (listed.setIfInBounds i true).getD k false = true → k ≠ i → listed.getD k false = true := fun k hk hne => by rwa [getD_set_ne false (Ne.symm hne)] at hk
      -- nobody that is listed looks at the slot of the one that isn't
      have unseen : ∀ k ok, listed.getD k false = true → aops[k]? = some ok → isLoad ok = true → Unseen oi ok := fun k ok hk hok hld => by
        rcases Nat.lt_trichotomy k i with h' | h' | h'
        · exact S.safe k i ok oi h' hok hi hld
        · subst h'
          have := getD_tf hk
          rw [hiun] at this
          cases this
        · have : ops[k]?.isSome = true := by rw [← S.same k, hok]; rfl
          obtain ⟨ok', hok'⟩ := Option.isSome_iff_exists.1 this
          exact (S.free i k ok' oi ok h' hok' hi hok (wait k ok' hok' fun e he hb => hcl k ok' hok' hk e he hb)).1
      have H' : oneOp T F oi l s fun l s => (∀ k ok, listed.getD k false = true → aops[k]? = some ok → Win (ancs ops.toList []) aops k i → Chk ok l s) ∧ oneOp T F o l s fun l s => (∀ k ok, (listed.setIfInBounds i true).getD k false = true → aops[k]? = some ok → Win (ancs ops.toList []) aops k j → Chk ok l s) ∧ anyC T F ops aops K fuel ((listed.setIfInBounds i true).setIfInBounds j true) l s :=
        oneOp_mono (fun l s h => ⟨h.1, h.2.2 j hjr o ho⟩) H
      have his : i < listed.size := by
        rcases Nat.lt_or_ge i listed.size with h' | h'
        · exact h'
        · simp [Array.getElem?_eq_none h'] at hiun
      have hsw := oneOp_swapC (N := N) (A' := fun l s => ∀ k ok, (listed.setIfInBounds j true).getD k false = true → aops[k]? = some ok → Win (ancs ops.toList []) aops k i → Chk ok l s) (B' := fun l s => ∀ k ok, listed.getD k false = true → aops[k]? = some ok → Win (ancs ops.toList []) aops k j → Chk ok l s)
        hfree (fun hld => S.self i oi hi hld) (fun hld d hd => S.dst i oi hi hld d hd) hlen
        (fun hrd l s k ok _ _ hw => (hw.noread hi hrd).elim) (fun hrd l s k ok _ _ hw => (hw.noread ho hrd).elim)
        (fun _ hjp l v s hA k ok hk hok hw => by
          have hkj : k ≠ j := fun e => by
            subst e
            obtain ⟨ai, aj, w1, w2, w3, w4, w5, w6⟩ := hw
            omega
          have hki : k < i := by obtain ⟨_, _, _, _, w3, _⟩ := hw; exact w3
          have hld : isLoad ok = true := by
            obtain ⟨ai, aj, w1, w2, w3, w4, w5, w6⟩ := hw
            rw [hok] at w1
            cases w1
            exact w4
          refine (Chk.put (S.safe k j ok o (by omega) hok ho hld) l v s).2 (hA k ok ?_ hok hw)
          rwa [getD_set_ne false (Ne.symm hkj)] at hk)
        (fun l v s _ hB k ok hk hok hw => by
          have hld : isLoad ok = true := by
            obtain ⟨ai, aj, w1, w2, w3, w4, w5, w6⟩ := hw
            rw [hok] at w1
            cases w1
            exact w4
          have hne : i ≠ k := fun e => by
            subst e
            have := getD_tf hk
            rw [hiun] at this
            cases this
          refine (Chk.put (unseen k ok hk hok hld) l v s).1 (hB k ok ?_ hok hw)
          rw [getD_set_ne false hne]
          exact hk)
        (fun hld hnr l s hB => hB i oi (by simp [his]) hi ⟨oi, o, hi, ho, hij, hld, hnr, wait j oj hoj hall⟩)
        H'
      refine oneOp_mono (fun l' s' h => ⟨h.1, ?_⟩) (?_ : oneOp T F o l s fun l' s' => (∀ k ok, listed.getD k false = true → aops[k]? = some ok → Win (ancs ops.toList []) aops k j → Chk ok l' s') ∧ l'.length = N ∧ oneOp T F oi l' s' fun l s => (∀ k ok, (listed.setIfInBounds j true).getD k false = true → aops[k]? = some ok → Win (ancs ops.toList []) aops k i → Chk ok l s) ∧ anyC T F ops aops K fuel ((listed.setIfInBounds i true).setIfInBounds j true) l s)
      · refine ih (listed.setIfInBounds j true) l' s' (hcl.put hj) h.2.1 (fun k hk => ?_) (ready_mono hr (Ne.symm hji)) ?_
        · rw [getD_set_ne true (by omega)]; exact hmin k hk
        · rw [Array.setIfInBounds_comm _ _ hji]
          exact h.2.2
      · unfold oneOp at hsw ⊢
        split
        · rename_i hw
          rw [if_pos hw] at hsw
          exact Out.all_mono (fun r h => ⟨h.1, by rw [putL_length]; exact hlen, h.2⟩) hsw
        · rename_i hw
          rw [if_neg hw] at hsw
          exact ⟨hsw.1, by rw [putL_length]; exact hlen, hsw.2⟩

theorem same1_spec {v u : Value} {vs : List Value} {s : St} (h : rop .same1 (v :: vs) s = some u) : rop .load1 vs s = some v := by
  match vs, h with
  | [.pointer (some a)], h =>
    simp only [rop] at h ⊢
    cases hget : s.get a.block with
    | none => rw [hget] at h; cases h
    | some ob =>
      cases ob with
      | row cs g ro =>
        rw [hget] at h
        simp only at h ⊢
        cases hc : cs[a.off]? with
        | none => rw [hc] at h; cases h
        | some x =>
          rw [hc] at h
          simp only at h
          split at h
          · rename_i he; rw [cellEq_eq he]
          · cases h
      | _ => rw [hget] at h; cases h

theorem chk_run {o : AOper} (hld : isLoad o = true) {rest : List AOper} {l : List Value} {s : St} {K : List Value × St → Prop} (h : (runOps T F (chkOp o :: rest) l s).all K) : Chk o l s ∧ (runOps T F rest l s).all K := by
  unfold isLoad at hld
  split at hld
  · rename_i hop
    obtain ⟨d, hd⟩ := Option.isSome_iff_exists.1 hld
    simp only [chkOp, hd, runOps] at h
    have hwant : wantedL ⟨none, .r .same1, .t d :: o.args, o.guard⟩ l = wantedL o l := rfl
    rw [hwant] at h
    by_cases hw : wantedL o l = true
    · rw [if_pos hw, Out.all_bind] at h
      simp only [opStep, List.map_cons, Arg.ev] at h
      have key : ∀ vs : List Value, (match rop .same1 (lget l d :: vs) s with | some v => Out.ret (v, s) | none => Out.fail).all (fun a => (runOps T F rest (putL l none a.1) a.2).all K) → rop .load1 vs s = some (lget l d) ∧ (runOps T F rest l s).all K := fun vs hh => by
        cases hr : rop .same1 (lget l d :: vs) s with
        | none => rw [hr] at hh; exact hh.elim
        | some v =>
          rw [hr] at hh
          exact ⟨same1_spec hr, hh⟩
      obtain ⟨k1, k2⟩ := key _ h
      exact ⟨fun _ => ⟨d, hd, by rw [hop]; exact k1⟩, k2⟩
    · rw [if_neg hw] at h
      exact ⟨fun hh => absurd hh hw, h⟩
  · cases hld

theorem chks_run {rest : List AOper} {K : List Value × St → Prop} : ∀ (os : List AOper) (l : List Value) (s : St), (∀ o ∈ os, isLoad o = true) → (runOps T F (os.map chkOp ++ rest) l s).all K → (∀ o ∈ os, Chk o l s) ∧ (runOps T F rest l s).all K
  | [], l, s, _, h => ⟨fun o ho => (by cases ho), h⟩
  | o :: os, l, s, hld, h => by
    obtain ⟨h1, h2⟩ := chk_run (hld o (by simp)) h
    obtain ⟨h3, h4⟩ := chks_run os l s (fun o ho => hld o (by simp [ho])) h2
    refine ⟨fun x hx => ?_, h4⟩
    rcases List.mem_cons.1 hx with rfl | hx
    · exact h1
    · exact h3 x hx

/-- those that are asked for again behind number j -/
def winOps (m : List Nat) (aops : List AOper) (j : Nat) : List AOper := (List.range j).filterMap fun i => match aops[i]? with
  | some b => if isLoad b && !((m.getD j 0).testBit i) then some b else none
  | none => none

theorem chksOf_eq (m : List Nat) (aops : List AOper) (j : Nat) (a : AOper) : chksOf m aops j a = if a.op.reads then [] else (winOps m aops j).map chkOp := by
  unfold chksOf winOps
  split
  · rfl
  · rw [List.map_filterMap]
    congr 1
    funext i
    cases aops[i]? with
    | none => rfl
    | some b => simp only; split <;> rfl

theorem any_lexC {ops : Array Oper} {aops : List AOper} {N : Nat} (S : Stat ops aops N) {K : List Value × St → Prop} :
    ∀ (rest : List AOper) (k : Nat) (listed : Array Bool) (l : List Value) (s : St), Closed ops listed → l.length = N → (∀ j, rest[j]? = aops[k + j]?) → (∀ j, j < k → listed.getD j true = true) → Region.lexFrom .any ops rest.length k listed = true →
      (runOps T F (withChks (ancs ops.toList []) aops rest k) l s).all K → anyC T F ops aops (fun l s => K (l, s)) rest.length listed l s
  | [], k, listed, l, s, _, _, _, _, hB, h => ⟨by simpa [Region.lexFrom] using hB, h⟩
  | o :: rest, k, listed, l, s, hcl, hlen, hr, hlt, hB, h => by
    have h0 : aops[k]? = some o := by simpa using (hr 0).symm
    simp only [List.length_cons, Region.lexFrom, Bool.and_eq_true] at hB
    obtain ⟨⟨hrd, hf⟩, hB'⟩ := hB
    have hks : k < listed.size := by
      have := (mem_ready.1 (by simpa using hrd : k ∈ Region.ready .any ops listed)).1
      rcases Nat.lt_or_ge k listed.size with h' | h'
      · exact h'
      · simp [Array.getElem?_eq_none h'] at this
    have hkr : k ∈ Region.ready .any ops listed := by simpa using hrd
    have ih := fun l s hl => any_lexC S (K := K) rest (k + 1) (listed.setIfInBounds k true) l s (hcl.put hkr) hl
    have hr' : ∀ j, rest[j]? = aops[k + 1 + j]? := fun j => by have := hr (j + 1); simpa [Nat.add_assoc, Nat.add_comm 1 j] using this
    have hlt' : ∀ j, j < k + 1 → (listed.setIfInBounds k true).getD j true = true := fun j hj => by
      by_cases hjk : j = k
      · subst hjk; simp [hks]
      · rw [getD_set_ne true (Ne.symm hjk)]; exact hlt j (by omega)
    refine any_firstC S h0 rest.length listed l s hcl hlen hlt (by simpa using hrd) ?_
    simp only [withChks, runOps] at h
    have fin : ∀ l' s', l'.length = N → (runOps T F (chksOf (ancs ops.toList []) aops k o ++ withChks (ancs ops.toList []) aops rest (k + 1)) l' s').all K → (∀ j oj, listed.getD j false = true → aops[j]? = some oj → Win (ancs ops.toList []) aops j k → Chk oj l' s') ∧ anyC T F ops aops (fun l s => K (l, s)) rest.length (listed.setIfInBounds k true) l' s' := fun l' s' hl' hh => by
      rw [chksOf_eq] at hh
      split at hh
      · rename_i hrd
        exact ⟨fun j oj _ _ hw => (hw.noread h0 hrd).elim, ih l' s' hl' hr' hlt' hB' hh⟩
      · obtain ⟨h1, h2⟩ := chks_run (winOps (ancs ops.toList []) aops k) l' s' (fun x hx => by
          simp only [winOps, List.mem_filterMap] at hx
          obtain ⟨i, _, hi⟩ := hx
          split at hi
          · rename_i hc
            split at hi
            · rename_i hcond
              cases hi
              simp only [Bool.and_eq_true] at hcond
              exact hcond.1
            · cases hi
          · cases hi) hh
        refine ⟨fun j oj _ hoj hw => h1 oj ?_, ih l' s' hl' hr' hlt' hB' h2⟩
        obtain ⟨ai, aj, w1, w2, w3, w4, w5, w6⟩ := hw
        rw [hoj] at w1
        cases w1
        simp only [winOps, List.mem_filterMap]
        exact ⟨j, List.mem_range.2 w3, by rw [hoj]; simp [w4]; simpa using w6⟩
    unfold oneOp
    split
    · rename_i hw
      rw [if_pos hw, Out.all_bind] at h
      exact Out.all_mono (fun r hr0 => fin _ _ (by rw [putL_length]; exact hlen) hr0) h
    · rename_i hw
      rw [if_neg hw] at h
      exact fin _ _ (by rw [putL_length]; exact hlen) h

end

section
variable {P : Program} {B0 : Nat} {W0 : World} {T : Tab} {F : CallF} {μ0 : Nat → Spot} {n0 b : Nat} {fl : Bool}

theorem compOpers_get {ops : Array Oper} : ∀ {os : List Oper} {aops : List AOper}, compOpers P b fl ops os = some aops → aops.length = os.length ∧ ∀ (i : Nat) (o : Oper), os[i]? = some o → ∃ ao, aops[i]? = some ao ∧ compOper P b fl ops o = some ao
  | [], aops, h => by simp [compOpers] at h; subst h; exact ⟨rfl, fun i o hi => by simp at hi⟩
  | x :: os, aops, h => by
    simp only [compOpers, Option.bind_eq_some_iff, Option.map_eq_some_iff] at h
    obtain ⟨ax, h1, aos, h2, rfl⟩ := h
    obtain ⟨k1, k2⟩ := compOpers_get h2
    refine ⟨by simp [k1], fun i o hi => ?_⟩
    cases i with
    | zero => simp at hi; subst hi; exact ⟨ax, rfl, h1⟩
    | succ i => simpa using k2 i o (by simpa using hi)

theorem step_out {o : AOper} {l : List Value} {s : St} {C : List Value → St → Prop} (h : oneOp T F o l s C) (hw : wantedL o l = true) : (opStep T F o.op (o.args.map (Arg.ev l)) s).all fun r => C (putL l o.dst r.1) r.2 := by
  unfold oneOp at h
  rwa [if_pos hw] at h

/-- out of the second machine's any order the first one's -/
theorem any_sound (hF : FSound P F) (hT : TabOk P T) {ops : Array Oper} {aops : List AOper} (hc : compOpers P b fl ops ops.toList = some aops) {Q : Exit → Act → World → Prop} {K : List Value → St → Prop} (hQ : ∀ l s a w, K l s → Sim P B0 W0 μ0 n0 b fl l s a w → Q .normal a w) :
    ∀ (fuel : Nat) (listed : Array Bool) (l : List Value) (s : St) (a : Act) (w : World), Sim P B0 W0 μ0 n0 b fl l s a w → anyOrder T F ops aops K fuel listed l s → wpAny P .any ops Q fuel listed a w
  | 0, listed, l, s, a, w, hs, h => ⟨h.1, hQ l s a w h.2 hs⟩
  | fuel + 1, listed, l, s, a, w, hs, h => by
    refine ⟨fun h0 => hQ l s a w (h.1 h0) hs, fun i hi => ?_⟩
    obtain ⟨_, o, ho, _⟩ := mem_ready.1 hi
    obtain ⟨ao, h1, h2⟩ := (compOpers_get hc).2 i o (by simpa using ho)
    have hone := h.2 i hi ao h1
    have hw := oper_wanted h2 hs
    unfold wpOp
    simp only [ho]
    rw [hw]
    split
    · rename_i hwt
      refine .inl (oper_sound hF hT h2 hs (K := fun l s => anyOrder T F ops aops K fuel (listed.setIfInBounds i true) l s) (fun l s a w hk hs' => any_sound hF hT hc hQ fuel _ l s a w hs' hk) ?_)
      exact step_out hone hwt
    · rename_i hwt
      unfold oneOp at hone
      rw [if_neg hwt] at hone
      exact any_sound hF hT hc hQ fuel _ _ s _ w (oper_skip h2 hs hwt) hone

theorem freeB_spec {x y : AOper} (h : freeB x y = true) : FreeOf x y := by
  simp only [freeB, Bool.and_eq_true] at h
  obtain ⟨⟨h1, h2⟩, h3⟩ := h
  refine ⟨fun d hd => ?_, fun d hd => ?_, fun d hd => ?_, h3⟩
  · rw [hd] at h1; simp at h1; exact h1.1
  · rw [hd] at h1; simp at h1; exact h1.2
  · rw [hd] at h2; simpa using h2

theorem swapsOk_spec {aops : List AOper} {ops : Array Oper} (h : swapsOk aops ops.toList = true) {i j : Nat} {oj : Oper} {ai aj : AOper} (hij : i < j) (hj : ops[j]? = some oj) (hai : aops[i]? = some ai) (haj : aops[j]? = some aj)
    (hno : ((ancs ops.toList []).getD j 0).testBit i = false) : FreeOf ai aj := by
  simp only [swapsOk, List.all_eq_true, List.mem_range] at h
  have hjl : j < ops.toList.length := by
    rcases Nat.lt_or_ge j ops.size with hh | hh
    · simpa using hh
    · rw [Array.getElem?_eq_none hh] at hj; cases hj
  have h1 := h j hjl
  rw [haj] at h1
  simp only [List.all_eq_true, List.mem_range] at h1
  have h2 := h1 i hij
  rw [hai, hno] at h2
  simp only [Bool.false_or] at h2
  exact freeB_spec h2

theorem sim_length {l : List Value} {s : St} {a : Act} {w : World} (h : Sim P B0 W0 μ0 n0 b fl l s a w) : b ≤ l.length := by
  obtain ⟨μ, _, _, _, h1, l0, k, rfl, h2, _⟩ := h
  have := h2.length
  simp only [Array.length_toList] at this
  rw [List.length_append]
  omega

theorem compOpers_dst {ops : Array Oper} {aops : List AOper} (hc : compOpers P b fl ops ops.toList = some aops) {N : Nat} (hb : b ≤ N) {k : Nat} {ok : AOper} (hk : aops[k]? = some ok) (hld : isLoad ok = true) {d : Nat} (hd : ok.dst = some d) : d < N := by
  obtain ⟨h1, h2⟩ := compOpers_get hc
  have hlt : k < ops.toList.length := by rw [← h1]; exact (List.getElem?_eq_some_iff.1 hk).1
  obtain ⟨ao, h3, h4⟩ := h2 k _ (List.getElem?_eq_getElem hlt)
  rw [hk] at h3
  cases h3
  unfold compOper at h4
  split at h4
  · split at h4
    · simp only [Option.bind_eq_some_iff, Option.map_eq_some_iff] at h4
      obtain ⟨_, _, _, _, rfl⟩ := h4
      simp [isLoad] at hld
    · cases h4
  · simp only [Option.bind_eq_some_iff] at h4
    obtain ⟨_, _, _, _, _, _, h5⟩ := h4
    split at h5
    · rename_i hdst
      cases h5
      simp only at hd
      rw [hd] at hdst
      simp only [dstIn, Nat.blt_eq] at hdst
      omega
    · cases h5

theorem unseenB_spec {x y : AOper} (h : unseenB x y = true) : Unseen x y := fun d hd => by
  unfold unseenB at h
  rw [hd] at h
  simpa using h

theorem swapsOk2_spec {aops : List AOper} {ops : Array Oper} (h : swapsOk2 aops ops.toList = true) (hlen : aops.length = ops.size) {N : Nat} (hd : ∀ (k : Nat) (ok : AOper), aops[k]? = some ok → isLoad ok = true → ∀ d, ok.dst = some d → d < N) : Stat ops aops N := by
  simp only [swapsOk2, List.all_eq_true, List.mem_range, Array.length_toList] at h
  have lt : ∀ (j : Nat) (a : AOper), aops[j]? = some a → j < ops.size := fun j a ha => by
    rw [← hlen]
    exact (List.getElem?_eq_some_iff.1 ha).1
  have two : ∀ (i j : Nat) (ai aj : AOper), i < j → aops[i]? = some ai → aops[j]? = some aj → ((((ancs ops.toList []).getD j 0).testBit i || freeB2 ai aj) && (!isLoad ai || unseenB aj ai)) = true := fun i j ai aj hij hai haj => by
    have h1 := h j (lt j aj haj)
    rw [haj] at h1
    simp only [Bool.and_eq_true, List.all_eq_true, List.mem_range] at h1
    have h2 := h1.2 i hij
    rw [hai] at h2
    simpa using h2
  refine ⟨fun i j oj ai aj hij hoj hai haj hno => ?_, fun k ok hk hld d hdd => ?_, fun k j ok oj hkj hk hj hld => ?_, hd, fun k => ?_⟩
  · have h2 := two i j ai aj hij hai haj
    rw [hno] at h2
    simp only [Bool.false_or, Bool.and_eq_true, freeB2] at h2
    obtain ⟨⟨⟨h3, h4⟩, h5⟩, _⟩ := h2
    refine ⟨unseenB_spec h3, fun d hdd => ?_, ?_⟩
    · rw [hdd] at h4; simpa using h4
    · simp only [Bool.or_eq_true, Bool.and_eq_true, Bool.not_eq_true'] at h5
      exact h5
  · have h1 := h k (lt k ok hk)
    rw [hk] at h1
    simp only [Bool.and_eq_true, selfB] at h1
    have h2 := h1.1
    rw [hld, hdd] at h2
    simpa using h2
  · have h2 := two k j ok oj hkj hk hj
    simp only [Bool.and_eq_true] at h2
    have h3 := h2.2
    rw [hld] at h3
    simp only [Bool.not_true, Bool.false_or] at h3
    exact unseenB_spec h3
  · rw [Bool.eq_iff_iff]
    simp only [Option.isSome_iff_exists]
    constructor
    · rintro ⟨a, ha⟩
      exact ⟨_, Array.getElem?_eq_getElem (lt k a ha)⟩
    · rintro ⟨a, ha⟩
      have : k < aops.length := by
        rw [hlen]
        rcases Nat.lt_or_ge k ops.size with hh | hh
        · exact hh
        · rw [Array.getElem?_eq_none hh] at ha; cases ha
      exact ⟨_, List.getElem?_eq_getElem this⟩

theorem region_sound (hm : P.follows .mixedOrders = true) (hF : FSound P F) (hT : TabOk P T) {id : Nat} {ops : Array Oper} {draw : Bool} {aops : List AOper} (hc : compRegion P b fl ops draw = .region aops) {Q : Exit → Act → World → Prop} {K : List Value × St → Prop}
    (hQ : ∀ l s a w, K (l, s) → Sim P B0 W0 μ0 n0 b fl l s a w → Q .normal a w) {l : List Value} {s : St} {a : Act} {w : World} (hs : Sim P B0 W0 μ0 n0 b fl l s a w) (h : (runOps T F aops l s).all K) : (Code.region id ops draw).wp P Q a w := by
  unfold compRegion at hc
  cases ho : compOpers P b fl ops ops.toList with
  | none => rw [ho] at hc; cases hc
  | some aops' =>
    rw [ho] at hc
    simp only at hc
    split at hc
    · rename_i hdd
      split at hc
      · rename_i hd
        injection hc with hc
        cases draw with
        | false => simp at hdd
        | true =>
        simp only [Bool.and_eq_true] at hd
        obtain ⟨hl, hsw⟩ := hd
        simp only [Region.lexB, Bool.and_eq_true] at hl
        have hlen := (compOpers_get ho).1
        simp only [Array.length_toList] at hlen
        refine wp_region_any hm ?_
        have hs' : Sim P B0 W0 μ0 n0 b fl l s a { w with drawn := w.drawn + 1 } := by
          obtain ⟨⟨μ, k1, k2, k3, k4⟩⟩ := hs
          exact ⟨⟨μ, k1, k2.drew _, k3, k4⟩⟩
        rw [← hlen]
        have hb := sim_length hs
        rw [← hc] at h
        refine any_sound hF hT ho (K := fun l s => K (l, s)) hQ _ _ l s a _ hs' (anyC_order _ _ l s (any_lexC (N := l.length) (swapsOk2_spec hsw hlen fun k ok hk hld d hd => compOpers_dst ho hb hk hld hd) aops' 0 _ l s (fun k ok hk hl => (by exfalso; rw [Array.getD_eq_getD_getElem?, Array.getElem?_replicate] at hl; split at hl <;> simp at hl)) rfl (by simp) (fun j hj => by omega) (by rw [hlen]; exact hl.2) h))
      · cases hc
    · rename_i hd
      cases hc
      cases draw with
      | false => exact wp_region_list (list_sound hF hT hQ _ _ l s a w ho hs h)
      | true =>
        simp only [Bool.true_and, Bool.not_eq_true', Bool.not_eq_false', Bool.not_eq_true, Bool.and_eq_true, Bool.not_eq_false] at hd
        obtain ⟨hl, hsw⟩ := hd
        simp only [Region.lexB, Bool.and_eq_true] at hl
        have hlen := (compOpers_get ho).1
        simp only [Array.length_toList] at hlen
        refine wp_region_any hm ?_
        have hs' : Sim P B0 W0 μ0 n0 b fl l s a { w with drawn := w.drawn + 1 } := by
          obtain ⟨⟨μ, k1, k2, k3, k4⟩⟩ := hs
          exact ⟨⟨μ, k1, k2.drew _, k3, k4⟩⟩
        rw [← hlen]
        refine any_sound hF hT ho (K := fun l s => K (l, s)) hQ _ _ l s a _ hs' (any_lex (fun i j oj ai aj hij hj hai haj hno => swapsOk_spec hsw hij hj hai haj hno) aops 0 _ l s (fun k ok hk hl => (by exfalso; rw [Array.getD_eq_getD_getElem?, Array.getElem?_replicate] at hl; split at hl <;> simp at hl)) (by simp) (fun j hj => by omega) (by rw [hlen]; exact hl.2) h)

end
end Go.Am
end
section
set_option linter.unusedSimpArgs false
set_option linter.unusedVariables false
set_option maxRecDepth 10000
namespace Go.Am
open Go.RowKit (Below)

def Res.out : Res → Exit
  | .norm _ _ => .normal
  | .exit id _ _ => .exit id
  | .ret _ _ => .ret

def Res.slots : Res → List Value
  | .norm l _ | .exit _ l _ | .ret l _ => l

def Res.st : Res → St
  | .norm _ s | .exit _ _ s | .ret _ s => s

section
variable {P : Program} {T : Tab} {F : CallF} {B0 : Nat} {W0 : World} {μ0 : Nat → Spot} {n0 nb : Nat} {fl : Bool}

/-- whatever end a run comes to that K holds of: Q holds of it -/
def Ends (P : Program) (B0 : Nat) (W0 : World) (μ0 : Nat → Spot) (n0 nb : Nat) (fl : Bool) (K : Res → Prop) (Q : Exit → Act → World → Prop) : Prop :=
  ∀ (r : Res) (a : Act) (w : World), K r → Sim P B0 W0 μ0 n0 nb fl r.slots r.st a w → Q r.out a w

theorem code_sound (hm : P.follows .mixedOrders = true) (hF : FSound P F) (hT : TabOk P T) (m : Nat) : ∀ (c : Code) (l : List Value) (s : St) (a : Act) (w : World) (K : Res → Prop) (Q : Exit → Act → World → Prop),
    Ends P B0 W0 μ0 n0 nb fl K Q → Sim P B0 W0 μ0 n0 nb fl l s a w → (code T F m (comp P nb fl c) l s).all K → c.wp P Q a w
  | .skip, l, s, a, w, K, Q, hQ, hs, h => wp_skip (hQ (.norm l s) a w h hs)
  | .exit id, l, s, a, w, K, Q, hQ, hs, h => wp_exit (hQ (.exit id l s) a w h hs)
  | .ret, l, s, a, w, K, Q, hQ, hs, h => wp_ret (hQ (.ret l s) a w h hs)
  | .region id ops draw, l, s, a, w, K, Q, hQ, hs, h => by
    simp only [comp] at h
    cases hc : compRegion P nb fl ops draw with
    | region aops =>
      rw [hc] at h
      simp only [code] at h
      rw [Out.all_bind] at h
      exact region_sound hm hF hT hc (K := fun r => K (.norm r.1 r.2)) (fun l s a w hk hs' => hQ (.norm l s) a w hk hs') hs h
    | _ =>
      exfalso
      unfold compRegion at hc
      split at hc
      · split at hc
        · split at hc
          · cases hc
          · cases hc <;> (rw [compRegion] at h; simp_all [code, Out.all])
        · cases hc
      · cases hc <;> (rw [compRegion] at h; simp_all [code, Out.all])
  | .seq x y, l, s, a, w, K, Q, hQ, hs, h => by
    simp only [comp, code] at h
    rw [Out.all_bind] at h
    refine wp_seq (code_sound hm hF hT m x l s a w _ _ ?_ hs h)
    intro r a w hk hs'
    cases r with
    | norm l s => exact code_sound hm hF hT m y l s a w K Q hQ hs' hk
    | exit id l s => exact hQ (.exit id l s) a w hk hs'
    | ret l s => exact hQ (.ret l s) a w hk hs'
  | .cond c x y, l, s, a, w, K, Q, hQ, hs, h => by
    simp only [comp] at h
    cases hc : argOf P nb c with
    | none => rw [hc] at h; exact h.elim
    | some c' =>
      rw [hc] at h
      simp only [code] at h
      have hv : ∃ μ n, VR μ n (c'.ev l) (a.eval c) := by
        obtain ⟨μ, _, _, hg, hl⟩ := hs.ex
        exact ⟨μ, s.next, argOf_rel hg hl hc⟩
      obtain ⟨μ, n, hv⟩ := hv
      generalize hu : c'.ev l = u at hv h
      generalize hu' : a.eval c = u' at hv
      cases hv <;> (try (exact h.elim))
      rename_i b
      refine wp_cond hu' ?_
      cases b with
      | true => exact code_sound hm hF hT m x l s a w K Q hQ hs h
      | false => exact code_sound hm hF hT m y l s a w K Q hQ hs h
  | .block id b, l, s, a, w, K, Q, hQ, hs, h => by
    simp only [comp, code] at h
    rw [Out.all_bind] at h
    refine wp_block (code_sound hm hF hT m b l s a w _ _ ?_ hs h)
    intro r a w hk hs'
    cases r with
    | norm l s => exact hQ (.norm l s) a w hk hs'
    | exit id' l s =>
      simp only at hk
      simp only [Res.out, Exit.inBlock]
      split at hk
      · rename_i he; rw [if_pos he]; exact hQ (.norm l s) a w hk hs'
      · rename_i he; rw [if_neg he]; exact hQ (.exit id' l s) a w hk hs'
    | ret l s => exact hQ (.ret l s) a w hk hs'
  | .loop b, l, s, a, w, K, Q, hQ, hs, h => by
    simp only [comp, code] at h
    have key : ∀ (k : Nat) (l : List Value) (s : St) (a : Act) (w : World), Sim P B0 W0 μ0 n0 nb fl l s a w → (iter (code T F m (comp P nb fl b)) k l s).all K → Code.rounds P b Q k a w := by
      intro k
      induction k with
      | zero => intro l s a w _ h; exact h.elim
      | succ k ih =>
        intro l s a w hs h
        simp only [iter] at h
        rw [Out.all_bind] at h
        rw [rounds_succ]
        refine code_sound hm hF hT m b l s a w _ _ ?_ hs h
        intro r a w hk hs'
        cases r with
        | norm l s => exact ih l s a w hs' hk
        | exit id l s => exact hQ (.exit id l s) a w hk hs'
        | ret l s => exact hQ (.ret l s) a w hk hs'
    exact wp_loop_rounds m (key m l s a w hs h)
  | .scope _, _, _, _, _, _, _, _, _, h => h.elim
  | .label _, _, _, _, _, _, _, _, _, h => h.elim
  | .goto _, _, _, _, _, _, _, _, _, h => h.elim

/-- what was deferred is done -/
def runDefs (F : CallF) : List Value → St → Out St
  | .func (.func f) first cap :: es, s => (F f (first.toList ++ cap.toList) s).bind fun r => runDefs F es r.2
  | .nilIface :: _, s => .ret s
  | _, _ => .fail

/-- a deferred call: of a function of the table that does not defer, or one whose text is not at hand -/
def deferF (T : Tab) (fns : FuncId → Option AFn) (n : Nat) (C : CallF) : CallF := fun f vs s =>
  match fns f with
  | none => T.dfr f vs s
  | some fn => match n with
    | _ + 1 => bif fn.defs then .fail else C f vs s
    | 0 => .fail

def resO (rs : List (Nat × Nat)) (l : List Value) (s : St) : Out (Value × St) :=
  match resultV l s rs with
  | some v => .ret (v, s)
  | none => .fail

/-- a function's end where it defers -/
def endD (C : CallF) (nt : Nat) (rs : List (Nat × Nat)) (l : List Value) (s : St) : Out (Value × St) :=
  match lget l nt with
  | .tuple es => (runDefs C es.toList s).bind fun s => resO rs l s
  | _ => .fail

/-- a function's call: n: how deep, m: how many rounds of a loop; what no text is at hand for (or lies deeper): O -/
def callO (T : Tab) (O : CallF) (fns : FuncId → Option AFn) (m : Nat) : Nat → CallF
  | 0, f, args, s => O f args s
  | n + 1, f, args, s => match fns f with
    | none => O f args s
    | some fn => match fn.defs with
      | false => (code T (callO T O fns m n) m fn.body (padded args fn.ntmps) s).bind fun
        | .norm l s | .ret l s => resO fn.results l s
        | .exit _ _ _ => .fail
      | true => bif Nat.ble args.length fn.ntmps then (code T (callO T O fns m n) m fn.body (padded args fn.ntmps ++ [.tuple #[.nilIface]]) s).bind fun
        | .norm l s | .ret l s => endD (deferF T fns n (callO T O fns m n)) fn.ntmps fn.results l s
        | .exit _ _ _ => .fail
        else .fail

/-- what the first machine does for one result -/
def resAct (tmps : Array Value) : ResultVar → Sem Value
  | .tmp t => pure (tmps.getD t undef)
  | .cell a t => do loadVar t (← asAddr (tmps.getD a undef))

theorem result1_sound {μ : Nat → Spot} {s : St} {w : World} (hr : Rel B0 W0 μ s w) {l : List Value} {tmps : Array Value} (hl : ∀ t, t < nb → VR μ s.next (lget l t) (tmps.toList.getD t undef)) {r : ResultVar} {p : Nat × Nat} (hc : compResult P nb r = some p) {v : Value} (hv : results1 l s p = some v) :
    ∃ v', (resAct tmps r).run P w = .ok v' w ∧ VR μ s.next v v' := by
  have hget : ∀ t, tmps.toList.getD t undef = tmps.getD t undef := fun t => by simp [List.getD]
  cases r with
  | tmp t =>
    simp [compResult] at hc
    obtain ⟨ht, rfl⟩ := hc
    simp [results1] at hv
    subst hv
    refine ⟨_, rfl, ?_⟩
    have := hl t ht
    rwa [hget] at this
  | cell a t =>
    simp only [compResult] at hc
    split at hc
    rotate_left
    · cases hc
    rename_i hab
    have ha := hl a hab
    rw [hget] at ha
    split at hc
    · rename_i h1 h2
      cases hc
      simp only [results1] at hv
      generalize Am.lget l a = x at ha hv
      generalize hx' : tmps.getD a undef = x' at ha
      cases ha <;> simp [rop] at hv
      rename_i i off hi
      split at hv
      · rename_i cs g ro hg
        obtain ⟨v', k1, k2⟩ := (hr.known i _ hg).2.2.cellAt hv
        exact ⟨v', by unfold resAct; simp only [hx']; simp [asAddr, loadVar, r_agg w h1, run_load, k1], k2⟩
      · cases hv
    · rename_i n h1 h2
      cases hc
      simp only [results1] at hv
      generalize Am.lget l a = x at ha hv
      generalize hx' : tmps.getD a undef = x' at ha
      cases ha <;> simp [rop] at hv
      rename_i i off hi
      obtain ⟨cs, hcs, rfl⟩ := hv
      obtain ⟨l', k1, k2⟩ := load_cells (P := P) hr hcs
      exact ⟨.agg l'.toArray, by unfold resAct; simp only [hx']; simp [asAddr, loadVar, r_agg w h1, r_size w h2, k1], .agg _ _ (by simpa using k2)⟩
    · cases hc

theorem results_sound {μ : Nat → Spot} {s : St} {w : World} (hr : Rel B0 W0 μ s w) {l : List Value} {tmps : Array Value} (hl : ∀ t, t < nb → VR μ s.next (lget l t) (tmps.toList.getD t undef)) : ∀ {rs : List ResultVar} {ps : List (Nat × Nat)} (_ : compResults P nb rs = some ps) {vs : List Value} (_ : resultsL l s ps = some vs),
    ∃ vs', (List.mapM (m := Sem) (resAct tmps) rs).run P w = .ok vs' w ∧ VRs μ s.next vs vs'
  | [], ps, hc, vs, hv => by
    simp [compResults] at hc
    subst hc
    simp [resultsL] at hv
    subst hv
    exact ⟨[], by simp, .nil⟩
  | r :: rs, ps, hc, vs, hv => by
    simp only [compResults, Option.bind_eq_some_iff, Option.map_eq_some_iff] at hc
    obtain ⟨p, hp, ps', hps, rfl⟩ := hc
    simp only [resultsL, Option.bind_eq_some_iff, Option.map_eq_some_iff] at hv
    obtain ⟨v, hv1, vs1, hv2, rfl⟩ := hv
    obtain ⟨v', k1, k2⟩ := result1_sound hr hl hp hv1
    obtain ⟨vs', k3, k4⟩ := results_sound hr hl hps hv2
    exact ⟨v' :: vs', by rw [List.mapM_cons]; simp only [Sem.run_bind, k1, k3, Result.andThen_ok, Sem.run_pure], .cons _ _ _ _ k2 k4⟩

theorem resultV_sound {fn : Func} {μ : Nat → Spot} {s : St} {w : World} (hr : Rel B0 W0 μ s w) {l : List Value} {tmps : Array Value} (hl : ∀ t, t < nb → VR μ s.next (lget l t) (tmps.toList.getD t undef)) {ps : List (Nat × Nat)} (hc : compResults P nb fn.results.toList = some ps) {v : Value} (hv : resultV l s ps = some v) :
    ∃ v', (results fn tmps).run P w = .ok v' w ∧ VR μ s.next v v' := by
  have hsome : ∃ vs, resultsL l s ps = some vs := by
    unfold resultV at hv
    cases h : resultsL l s ps with
    | none => rw [h] at hv; cases hv
    | some vs => exact ⟨vs, rfl⟩
  obtain ⟨vs, hvs⟩ := hsome
  obtain ⟨vs', k1, k2⟩ := results_sound hr hl hc hvs
  unfold resultV at hv
  rw [hvs] at hv
  have hrun : (results fn tmps).run P w = .ok (if h : vs'.length = 1 then vs'[0] else .tuple vs'.toArray) w := by
    have e : results fn tmps = ((do
        let vs ← fn.results.mapM (resAct tmps)
        pure (if h : vs.size = 1 then vs[0] else .tuple vs)) : Sem Value) := rfl
    rw [e, Array.mapM_eq_mapM_toList]
    simp [k1]
  refine ⟨_, hrun, ?_⟩
  match vs, vs', k2, hv with
  | [], [], _, hv => simp at hv; subst hv; exact .tuple _ _ .nil
  | [_], [_], .cons _ _ _ _ h _, hv => simp at hv; subst hv; exact h
  | _ :: _ :: _, [_], k2, _ => exact absurd k2.length (by simp)
  | _ :: _ :: _, _ :: _ :: _, k2, hv => simp at hv; subst hv; simpa using VR.tuple _ _ (by simpa using k2)

theorem padded_rel {μ : Nat → Spot} {n : Nat} {vs : List Value} {args : List Value} (h : VRs μ n vs args) (k : Nat) : VRs μ n (padded vs k) (args.toArray ++ Array.replicate (k - args.toArray.size) undef).toList := by
  unfold padded
  simp only [Array.toList_append, Array.toList_replicate, List.size_toArray]
  rw [← h.length]
  exact h.append (.replicate_undef _)

/-- what a deferred call is good for -/
def DefOk (P : Program) (f : FuncId) (vs : List Value) (s : St) (Q : Value × St → Prop) : Prop :=
  ∀ (B0 : Nat) (W0 : World) (μ : Nat → Spot) (w : World) (args : List Value), Rel B0 W0 μ s w → Glob P μ s.next → VRs μ s.next vs args →
    CallsD P f args.toArray .returning w fun e u' w' => u' = .returning ∧ ∃ v s' v', Q (v, s') ∧ e = .returned v' ∧ After B0 W0 μ s v s' v' w'

def DSound (P : Program) (C : CallF) : Prop := ∀ f vs s Q, (C f vs s).all Q → (∃ fn, P.funcs[f]? = some fn ∧ fn.body.isSome = true ∧ (fn.name == "runtime.NumGoroutine") = false) ∧ DefOk P f vs s Q

/-- a function's body, where it does not defer -/
theorem body_sound (hm : P.follows .mixedOrders = true) (hT : TabOk P T) {F : CallF} (hF : FSound P F) (m : Nat) {f : FuncId} {fn : AFn} (hc : compFn P f = some fn) (hd : fn.defs = false) {vs : List Value} {s : St} {Q : Value × St → Prop}
    (h : ((code T F m fn.body (padded vs fn.ntmps) s).bind fun
        | .norm l s | .ret l s => resO fn.results l s
        | .exit _ _ _ => .fail).all Q) :
    ∃ fn0 b, P.funcs[f]? = some fn0 ∧ fn0.body = some b ∧ (fn0.name == "runtime.NumGoroutine") = false ∧ ∀ (B0 : Nat) (W0 : World) (μ : Nat → Spot) (w : World) (args : List Value), Rel B0 W0 μ s w → Glob P μ s.next → VRs μ s.next vs args →
      b.wp P (bodyPost P fn0 fun e w' => ∃ v s' v', Q (v, s') ∧ e = .returned v' ∧ After B0 W0 μ s v s' v' w') { tmps := args.toArray ++ Array.replicate (fn0.ntmps - args.toArray.size) undef, defers := [] } w := by
  unfold compFn at hc
  split at hc
  · rename_i fn0 hfn
    split at hc
    · rename_i b hb
      split at hc
      · cases hc
      · rename_i hnm
        simp only [Option.map_eq_some_iff] at hc
        obtain ⟨ps, hps, rfl⟩ := hc
        refine ⟨fn0, b, hfn, hb, by simpa using hnm, ?_⟩
        intro B0 W0 μ w args hr hg hv
        rw [Out.all_bind] at h
        simp only at hd h
        rw [hd] at h
        have hst : LR μ s.next fn0.ntmps false (padded vs fn0.ntmps) { tmps := args.toArray ++ Array.replicate (fn0.ntmps - args.toArray.size) undef, defers := [] } :=
          ⟨⟨by simp; omega, fun h => by cases h⟩, _, [], (List.append_nil _).symm, padded_rel hv _, .inl ⟨rfl, rfl, rfl⟩⟩
        refine code_sound (B0 := B0) (W0 := W0) (μ0 := μ) (n0 := s.next) (nb := fn0.ntmps) (fl := false) hm hF hT m b _ s _ w _ _ ?_ ⟨⟨μ, Agree.refl _ _, hr, hg, hst⟩⟩ h
        intro r a w' hk hs
        have fin : ∀ l s', (resO ps l s').all Q → Sim P B0 W0 μ s.next fn0.ntmps false l s' a w' → a.defers = [] ∧ ∃ v, (results fn0 a.tmps).run P w' = .ok v w' ∧ (∃ v1 s1 v', Q (v1, s1) ∧ Ending.returned v = .returned v' ∧ After B0 W0 μ s v1 s1 v' w') := fun l s' hk hs => by
          obtain ⟨⟨μ', k1, k2, k3, k4⟩⟩ := hs
          have k5 : a.defers = [] := by
            obtain ⟨_, _, k, _, _, h3⟩ := k4
            rcases h3 with ⟨_, h, _⟩ | ⟨_, h, _⟩
            · exact h
            · cases h
          unfold resO at hk
          cases hv : resultV l s' ps with
          | none => rw [hv] at hk; exact hk.elim
          | some v =>
            rw [hv] at hk
            obtain ⟨v', j1, j2⟩ := resultV_sound (nb := fn0.ntmps) k2 (fun t ht => k4.get ht) hps hv
            exact ⟨k5, v', j1, v, s', v', hk, rfl, μ', k1, k2, j2⟩
        cases r with
        | norm l s => exact fin l s hk hs
        | ret l s => exact fin l s hk hs
        | exit id l s => exact hk.elim
    · cases hc
  · cases hc

/-- what is deferred is done, and the function's results are there -/
theorem leaves_sound {C : CallF} (hC : DSound P C) {fn0 : Func} {ps : List (Nat × Nat)} (hps : compResults P nb fn0.results.toList = some ps) {tmps : Array Value} {l : List Value} {Q : Value × St → Prop} {s0 : St} :
    ∀ (ds : List Deferred) (es : List Value) (s : St) (μ : Nat → Spot) (w : World), Agree μ0 s0.next μ s.next → Rel B0 W0 μ s w → Glob P μ s.next → (∀ t, t < nb → VR μ s.next (lget l t) (tmps.toList.getD t undef)) → VRs μ s.next es (ds.map dV) → (∀ d ∈ ds, ∃ f cap, d.target = .fn (.func f) cap) →
      ((runDefs C (es ++ [.nilIface]) s).bind fun s => resO ps l s).all Q → Leaves P fn0 tmps (fun e w' => ∃ v s' v', Q (v, s') ∧ e = .returned v' ∧ After B0 W0 μ0 s0 v s' v' w') ds .returning w
  | [], es, s, μ, w, ha, hr, hg, hl, hes, hd, h => by
    cases hes
    simp only [List.nil_append, runDefs, Out.bind] at h
    unfold resO at h
    cases hv : resultV l s ps with
    | none => rw [hv] at h; exact h.elim
    | some v =>
      rw [hv] at h
      obtain ⟨v', j1, j2⟩ := resultV_sound (nb := nb) hr hl hps hv
      exact ⟨v', j1, v, s, v', h, rfl, μ, ha, hr, j2⟩
  | d :: ds, es, s, μ, w, ha, hr, hg, hl, hes, hd, h => by
    obtain ⟨f, cap, hf⟩ := hd d (List.mem_cons_self ..)
    obtain ⟨u, us, rfl, hu, hus⟩ := hes.invc
    have hdv : dV d = .func (.func f) d.args cap := by unfold dV; rw [hf]
    rw [hdv] at hu
    cases hu with
    | func fn f1 c1 f2 c2 q1 q2 =>
      simp only [List.cons_append, runDefs] at h
      rw [Out.all_bind, Out.all_bind] at h
      obtain ⟨⟨fnx, h1, h2, h3⟩, h4⟩ := hC f _ s _ h
      have hcf : (invoke (.fn (.func f) cap) d.args).run P w = .ok (.enter f (d.args ++ cap)) w := by
        have : fnx.body.isNone = false := by cases hb : fnx.body <;> simp [hb] at h2 ⊢
        simp only [invoke, callFunc, Sem.run_bind, run_program, Result.andThen_ok, h1, h3, this, Bool.false_eq_true, if_false, Sem.run_pure]
      have hdd : d = { target := .fn (.func f) cap, args := d.args } := by cases d; simp at hf; simp [hf]
      rw [hdd]
      refine leaves_cons (by simp) hcf ?_
      have := h4 B0 W0 μ w (d.args.toList ++ cap.toList) hr hg (q1.append q2)
      have he : (d.args.toList ++ cap.toList).toArray = d.args ++ cap := by simp
      rw [he] at this
      refine this.mono fun e u' w' hq => ?_
      obtain ⟨rfl, v, s', v', hk, rfl, μ', m1, m2, m3⟩ := hq
      have hk' : ((runDefs C (us ++ [.nilIface]) s').bind fun s => resO ps l s).all Q := by rw [Out.all_bind]; exact hk
      exact leaves_sound hC hps ds us s' μ' w' (ha.trans m1) m2 (hg.mono m1) (fun t ht => (hl t ht).mono m1) (hus.mono m1) (fun d hd' => hd d (List.mem_cons_of_mem _ hd')) hk'

theorem callO_sound2 (hm : P.follows .mixedOrders = true) (hT : TabOk P T) {O : CallF} (hO : FSound P O) (hD : DSound P T.dfr) {fns : FuncId → Option AFn} (hfns : ∀ f fn, fns f = some fn → compFn P f = some fn) (m : Nat) : ∀ n, FSound P (callO T O fns m n) ∧ DSound P (deferF T fns n (callO T O fns m n))
  | 0 => ⟨hO, fun f vs s Q h => by
    simp only [deferF] at h
    cases hf : fns f with
    | none => rw [hf] at h; exact hD f vs s Q h
    | some fn => rw [hf] at h; exact h.elim⟩
  | n + 1 => by
    obtain ⟨ih1, ih2⟩ := callO_sound2 hm hT hO hD hfns m n
    refine ⟨fun f vs s Q h => ?_, fun f vs s Q h => ?_⟩
    · simp only [callO] at h
      cases hf : fns f with
      | none => rw [hf] at h; exact hO f vs s Q h
      | some fn =>
        rw [hf] at h
        simp only at h
        have hc := hfns f fn hf
        cases hd : fn.defs with
        | false =>
          rw [hd] at h
          obtain ⟨fn0, b, h1, h2, h3, h4⟩ := body_sound hm hT ih1 m hc hd h
          refine ⟨⟨fn0, h1, by rw [h2]; rfl, h3⟩, fun B0 W0 μ w args hr hg hv => ?_⟩
          exact calls_of_wp h1 h2 (h4 B0 W0 μ w args hr hg hv)
        | true =>
          rw [hd] at h
          simp only at h
          unfold compFn at hc
          split at hc
          · rename_i fn0 hfn
            split at hc
            · rename_i b hb
              split at hc
              · cases hc
              · rename_i hnm
                simp only [Option.map_eq_some_iff] at hc
                obtain ⟨ps, hps, rfl⟩ := hc
                refine ⟨⟨fn0, hfn, by rw [hb]; rfl, by simpa using hnm⟩, ?_⟩
                intro B0 W0 μ w args hr hg hv
                simp only at hd h
                rw [hd] at h
                cases hle : Nat.ble vs.length fn0.ntmps with
                | false => rw [hle] at h; exact h.elim
                | true =>
                  rw [hle] at h
                  simp only [cond_true] at h
                  rw [Out.all_bind] at h
                  have hle' : vs.length ≤ fn0.ntmps := Nat.le_of_ble_eq_true hle
                  have hlen := hv.length
                  refine calls_of_wp_defers hfn hb ?_
                  have hst : LR μ s.next fn0.ntmps true (padded vs fn0.ntmps ++ [.tuple #[.nilIface]]) { tmps := args.toArray ++ Array.replicate (fn0.ntmps - args.toArray.size) undef, defers := [] } :=
                    ⟨⟨by simp; omega, fun _ => by simp; omega⟩, _, _, rfl, padded_rel hv _, .inr ⟨[], rfl, rfl, .nil, fun d hd => by cases hd⟩⟩
                  refine code_sound (B0 := B0) (W0 := W0) (μ0 := μ) (n0 := s.next) (nb := fn0.ntmps) (fl := true) hm ih1 hT m b _ s _ w _ _ ?_ ⟨⟨μ, Agree.refl _ _, hr, hg, hst⟩⟩ h
                  intro r a w' hk hs
                  have fin : ∀ l s', (endD (deferF T fns n (callO T O fns m n)) fn0.ntmps ps l s').all Q → Sim P B0 W0 μ s.next fn0.ntmps true l s' a w' → Leaves P fn0 a.tmps (fun e w' => ∃ v s' v', Q (v, s') ∧ e = .returned v' ∧ After B0 W0 μ s v s' v' w') a.defers .returning w' := fun l s' hk hs => by
                    obtain ⟨⟨μ', k1, k2, k3, k4⟩⟩ := hs
                    have hk4 := k4
                    obtain ⟨⟨_, hsz⟩, l0, k, rfl, h2, h3⟩ := k4
                    rcases h3 with ⟨_, _, h⟩ | ⟨es, _, rfl, h4, h5⟩
                    · cases h
                    have hl0 := h2.length
                    rw [Array.length_toList, hsz rfl] at hl0
                    have hu : lget (l0 ++ [Value.tuple (es ++ [Value.nilIface]).toArray]) fn0.ntmps = .tuple (es ++ [Value.nilIface]).toArray := by rw [hl0]; exact lget_at
                    unfold endD at hk
                    rw [hu] at hk
                    simp only [List.toList_toArray] at hk
                    exact leaves_sound ih2 hps a.defers es s' μ' w' k1 k2 k3 (fun t ht => hk4.get ht) h4 h5 hk
                  cases r with
                  | norm l s => exact fin l s hk hs
                  | ret l s => exact fin l s hk hs
                  | exit id l s => exact hk.elim
            · cases hc
          · cases hc
    · simp only [deferF] at h
      cases hf : fns f with
      | none => rw [hf] at h; exact hD f vs s Q h
      | some fn =>
        rw [hf] at h
        simp only at h
        cases hd : fn.defs with
        | true => rw [hd] at h; exact h.elim
        | false =>
          rw [hd] at h
          simp only [cond_false, callO, hf] at h
          rw [hd] at h
          have hc := hfns f fn hf
          obtain ⟨fn0, b, h1, h2, h3, h4⟩ := body_sound hm hT ih1 m hc hd h
          refine ⟨⟨fn0, h1, by rw [h2]; rfl, h3⟩, fun B0 W0 μ w args hr hg hv => ?_⟩
          exact callsD_of_wp h1 h2 (h4 B0 W0 μ w args hr hg hv)

theorem dsound_fail {D : CallF} (h : D = fun _ _ _ => .fail) : DSound P D := by
  subst h
  exact fun f vs s Q h => h.elim

theorem callO_sound (hm : P.follows .mixedOrders = true) (hT : TabOk P T) {O : CallF} (hO : FSound P O) {fns : FuncId → Option AFn} (hfns : ∀ f fn, fns f = some fn → compFn P f = some fn) (m n : Nat) (hD : DSound P T.dfr := by exact dsound_fail rfl) : FSound P (callO T O fns m n) := (callO_sound2 hm hT hO hD hfns m n).1

end
end Go.Am
end
section
set_option linter.unusedSimpArgs false
set_option linter.unusedVariables false
set_option maxRecDepth 10000
namespace Go.Am

abbrev Env := List (Nat × Value)

def Env.get? : Env → Nat → Option Value
  | [], _ => none
  | (k, v) :: e, n => if k = n then some v else Env.get? e n

def Env.put (e : Env) (d : Option Nat) (v : Value) : Env :=
  match d with
  | some d => (d, v) :: e
  | none => e

def Env.arg (e : Env) : Arg → Option Value
  | .t n => e.get? n
  | .c v => some v
  | .g n => some (.pointer (some ⟨n, 0, none⟩))

def Env.args (e : Env) : List Arg → Option (List Value)
  | [] => some []
  | a :: as => match e.arg a with
    | some v => match e.args as with
      | some vs => some (v :: vs)
      | none => none
    | none => none

def Env.putL (e : Env) : List (Option Nat) → Nat → List Value → Env
  | d :: ds, i, vs => Env.putL (e.put d (lget vs i)) ds (i + 1) vs
  | [], _, _ => e

def Env.gets (e : Env) : List Nat → Option (List Value)
  | [] => some []
  | k :: ks => match e.get? k with
    | some v => match e.gets ks with
      | some vs => some (v :: vs)
      | none => none
    | none => none

/-- the env's slots hold what it says -/
structure EnvOk (nt : Nat) (e : Env) (l : List Value) : Prop where
  len : nt ≤ l.length
  at_ : ∀ k v, e.get? k = some v → lget l k = v

/-- operations with no guard, and runs of operations with one guard -/
inductive Grp where
  | one (o : AOper)
  | grp (g : Nat) (want : Bool) (os : List AOper)

/-- code with its operations in groups -/
inductive GC where
  | skip
  | region (gs : List Grp)
  | seq (a b : GC)
  | cond (c : Arg) (thn els : GC)
  | block (id : Nat) (body : GC)
  | loop (body : GC)
  | exit (id : Nat)
  | ret
  | bad

def guarded (g : Nat) (w : Bool) : List AOper → List AOper
  | [] => []
  | o :: os => ⟨o.dst, o.op, o.args, some (g, w)⟩ :: guarded g w os

def flatG : List Grp → List AOper
  | [] => []
  | .one o :: gs => ⟨o.dst, o.op, o.args, none⟩ :: flatG gs
  | .grp g w os :: gs => guarded g w os ++ flatG gs

def fromG : GC → AC
  | .skip => .skip
  | .region gs => .region (flatG gs)
  | .seq a b => .seq (fromG a) (fromG b)
  | .cond c a b => .cond c (fromG a) (fromG b)
  | .block id b => .block id (fromG b)
  | .loop b => .loop (fromG b)
  | .exit id => .exit id
  | .ret => .ret
  | .bad => .bad

structure GFn where
  ntmps : Nat
  body : GC
  results : List (Nat × Nat)

def isPush (o : AOper) : Bool :=
  match o.op with
  | .p .push => true
  | _ => false

def grpPush : Grp → Bool
  | .one o => isPush o
  | .grp _ _ os => os.any isPush

def gPush : GC → Bool
  | .region gs => gs.any grpPush
  | .seq a b => gPush a || gPush b
  | .cond _ a b => gPush a || gPush b
  | .block _ b => gPush b
  | .loop b => gPush b
  | _ => false

def fromGFn (g : GFn) : AFn := ⟨g.ntmps, fromG g.body, g.results, gPush g.body⟩

/-- a pure operation's value goes on -/
def popK (o : POp) (vs : List Value) (K : Value → Prop) : Prop :=
  match pop o vs with
  | some v => K v
  | none => False

def ropK (o : ROp) (vs : List Value) (s : St) (K : Value → Prop) : Prop :=
  match rop o vs s with
  | some v => K v
  | none => False

def wopK (o : WOp) (vs : List Value) (s : St) (K : Value → St → Prop) : Prop :=
  match wop o vs s with
  | some r => K r.1 r.2
  | none => False

def callK (F : CallF) (f : FuncId) (vs : List Value) (s : St) (K : Value → St → Prop) : Prop := (F f vs s).all fun r => K r.1 r.2

def nextK (str : Bool) (vs : List Value) (s : St) (K : Value → St → Prop) : Prop := (nextV str vs s).all fun r => K r.1 r.2

def opK (T : Tab) (F : CallF) (o : AOp) (vs : List Value) (s : St) (K : Value → St → Prop) : Prop :=
  match o with
  | .p o => popK o vs fun v => K v s
  | .r o => ropK o vs s fun v => K v s
  | .w o => wopK o vs s K
  | .next str => nextK str vs s K
  | .call f => callK F f vs s K
  | .callV => match vs with
    | .func (.func f) first captured :: vs => callK F f (first.toList ++ vs ++ captured.toList) s K
    | _ => False
  | .invoke name => match vs with
    | .iface t v :: vs => match T.meth t name with
      | some f => callK F f (v :: vs) s K
      | none => False
    | _ => False

/-- an operation that takes its operands from the env -/
def opE (T : Tab) (F : CallF) (o : AOper) (e : Env) (s : St) (K : Value → St → Prop) : Prop :=
  match e.args o.args with
  | some vs => opK T F o.op vs s K
  | none => False

def listE (T : Tab) (F : CallF) : List AOper → Env → St → (Env → St → Prop) → Prop
  | [], e, s, K => K e s
  | o :: os, e, s, K => opE T F o e s fun v s => listE T F os (e.put o.dst v) s K

def guardP (v : Option Value) (want : Bool) (A B : Prop) : Prop :=
  match v with
  | some (.bool b) => if b = want then A else B
  | some _ => B
  | none => False

/-- a part that comes to some values, and what is behind it -/
def joinP (A : (List Value → St → Prop) → Prop) (J : List Value → St → Prop) : Prop := A J

def vals (e : Env) : List AOper → List Value
  | [] => []
  | o :: os => (match o.dst with
    | some d => (e.get? d).getD undef
    | none => undef) :: vals e os

def undefs : List AOper → List Value
  | [] => []
  | _ :: os => undef :: undefs os

def dsts : List AOper → List (Option Nat)
  | [] => []
  | o :: os => o.dst :: dsts os

def grpsE (T : Tab) (F : CallF) : List Grp → Env → St → (Env → St → Prop) → Prop
  | [], e, s, K => K e s
  | .one o :: gs, e, s, K => opE T F o e s fun v s => grpsE T F gs (e.put o.dst v) s K
  | .grp g w os :: gs, e, s, K => joinP (fun J => guardP (e.get? g) w (listE T F os e s fun e' s' => J (vals e' os) s') (J (undefs os) s)) fun vs s => grpsE T F gs (e.putL (dsts os) 0 vs) s K

def condP (v : Option Value) (A B : Prop) : Prop :=
  match v with
  | some (.bool b) => if b = true then A else B
  | _ => False

/-- which end, and what is asked of it -/
def ResOk (nt : Nat) (N : Env → St → Prop) (E : Nat → Env → St → Prop) (R : Env → St → Prop) : Res → Prop
  | .norm l s => ∃ e, EnvOk nt e l ∧ N e s
  | .exit id l s => ∃ e, EnvOk nt e l ∧ E id e s
  | .ret l s => ∃ e, EnvOk nt e l ∧ R e s

/-- a run of a text from any slots that are as the env says -/
def Runs (T : Tab) (F : CallF) (m nt : Nat) (c : AC) (e : Env) (s : St) (N : Env → St → Prop) (E : Nat → Env → St → Prop) (R : Env → St → Prop) : Prop :=
  ∀ l, EnvOk nt e l → (code T F m c l s).all (ResOk nt N E R)

def sx (T : Tab) (F : CallF) (m nt : Nat) : GC → Env → St → (Env → St → Prop) → (Nat → Env → St → Prop) → (Env → St → Prop) → Prop
  | .skip, e, s, N, _, _ => N e s
  | .region gs, e, s, N, _, _ => grpsE T F gs e s N
  | .seq a b, e, s, N, E, R => sx T F m nt a e s (fun e s => sx T F m nt b e s N E R) E R
  | .cond c x y, e, s, N, E, R => condP (e.arg c) (sx T F m nt x e s N E R) (sx T F m nt y e s N E R)
  | .block id b, e, s, N, E, R => sx T F m nt b e s N (fun id' e s => if id' = id then N e s else E id' e s) R
  | .loop b, e, s, N, E, R => Runs T F m nt (.loop (fromG b)) e s N E R
  | .exit id, e, s, _, E, _ => E id e s
  | .ret, e, s, _, _, R => R e s
  | .bad, _, _, _, _, _ => False

def dstOk (nt : Nat) (o : AOper) : Bool :=
  match o.dst with
  | some d => Nat.blt d nt
  | none => true

def grpOk (nt : Nat) : Grp → Bool
  | .one o => dstOk nt o
  | .grp g _ os => os.all fun o => dstOk nt o && o.dst != some g

/-- every slot that is written is one; no group writes its guard -/
def dstsB (nt : Nat) : GC → Bool
  | .region gs => gs.all (grpOk nt)
  | .seq a b => dstsB nt a && dstsB nt b
  | .cond _ a b => dstsB nt a && dstsB nt b
  | .block _ b => dstsB nt b
  | .loop b => dstsB nt b
  | _ => true

section
variable {T : Tab} {F : CallF} {m nt : Nat}

theorem lset_length (v : Value) : ∀ (l : List Value) (d : Nat), (lset l d v).length = l.length
  | [], _ => rfl
  | _ :: _, 0 => rfl
  | x :: l, d + 1 => by simp [lset, lset_length v l d]

theorem lget_lset_same (v : Value) : ∀ (l : List Value) (d : Nat), d < l.length → lget (lset l d v) d = v
  | [], _, h => absurd h (by simp)
  | _ :: _, 0, _ => rfl
  | x :: l, d + 1, h => by simp only [lset, lget]; exact lget_lset_same v l d (by simpa using h)

theorem EnvOk.put {e : Env} {l : List Value} (h : EnvOk nt e l) {d : Option Nat} (hd : ∀ k, d = some k → k < nt) (v : Value) : EnvOk nt (e.put d v) (putL l d v) := by
  cases d with
  | none => exact h
  | some d =>
    have hlt := hd d rfl
    refine ⟨by simpa [putL, lset_length] using h.len, fun k u hk => ?_⟩
    simp only [Env.put, Env.get?] at hk
    split at hk
    · rename_i he
      cases hk
      subst he
      exact lget_lset_same v l d (Nat.lt_of_lt_of_le hlt h.len)
    · rename_i he
      simp only [putL]
      rw [lget_lset v l d k (fun hh => he hh.symm)]
      exact h.at_ k u hk

theorem EnvOk.arg {e : Env} {l : List Value} (h : EnvOk nt e l) {a : Arg} {v : Value} (ha : e.arg a = some v) : a.ev l = v := by
  cases a with
  | t n => exact h.at_ n v ha
  | c v => simp [Env.arg] at ha; exact ha
  | g n => simp [Env.arg] at ha; exact ha

theorem EnvOk.args {e : Env} {l : List Value} (h : EnvOk nt e l) : ∀ {as : List Arg} {vs : List Value}, e.args as = some vs → as.map (Arg.ev l) = vs
  | [], vs, ha => by simp [Env.args] at ha; simp [ha]
  | a :: as, vs, ha => by
    simp only [Env.args] at ha
    split at ha
    · rename_i v hv
      split at ha
      · rename_i vs' hvs
        cases ha
        simp [h.arg hv, h.args hvs]
      · cases ha
    · cases ha

theorem opK_all {o : AOp} {vs : List Value} {s : St} {K : Value → St → Prop} (h : opK T F o vs s K) : (opStep T F o vs s).all fun r => K r.1 r.2 := by
  cases o with
  | p o =>
    simp only [opK, popK, opStep] at h ⊢
    cases hp : pop o vs <;> rw [hp] at h
    · exact h.elim
    · exact h
  | r o =>
    simp only [opK, ropK, opStep] at h ⊢
    cases hp : rop o vs s <;> rw [hp] at h
    · exact h.elim
    · exact h
  | w o =>
    simp only [opK, wopK, opStep] at h ⊢
    cases hp : wop o vs s <;> rw [hp] at h
    · exact h.elim
    · exact h
  | next str => exact h
  | call f => exact h
  | callV =>
    simp only [opK, opStep] at h ⊢
    split at h
    · exact h
    · exact h.elim
  | invoke name =>
    simp only [opK, opStep] at h ⊢
    split at h
    · split at h
      · rename_i hm; simp only [hm]; exact h
      · exact h.elim
    · exact h.elim

def bare (o : AOper) : AOper := ⟨o.dst, o.op, o.args, none⟩

/-- a guarded part: all or none of it is run -/
theorem grp_run {g : Nat} {w : Bool} : ∀ (os : List AOper) (l : List Value) (s : St) (_ : ∀ o ∈ os, o.dst ≠ some g) (rest : List AOper),
    runOps T F (guarded g w os ++ rest) l s = if (yieldedL l g == some w) = true then (runOps T F (os.map bare) l s).bind fun r => runOps T F rest r.1 r.2
      else runOps T F rest (os.foldl (fun l o => putL l o.dst undef) l) s
  | [], l, s, _, rest => by simp [guarded, runOps, Out.bind]
  | o :: os, l, s, h, rest => by
    have ho := h o (by simp)
    have hy : ∀ v, yieldedL (putL l o.dst v) g = yieldedL l g := fun v => by
      cases hd : o.dst with
      | none => rfl
      | some d =>
        have : d ≠ g := fun e => ho (by rw [hd, e])
        simp only [putL, yieldedL]
        rw [lget_lset v l d g (fun e => this e.symm)]
    have ih := fun l s => grp_run (w := w) os l s (fun o' h' => h o' (by simp [h'])) rest
    have hw : wantedL ⟨o.dst, o.op, o.args, some (g, w)⟩ l = (yieldedL l g == some w) := rfl
    have hb : wantedL (bare o) l = true := rfl
    simp only [guarded, List.cons_append, runOps, List.map_cons, List.foldl_cons, hw, hb, if_true]
    by_cases hc : (yieldedL l g == some w) = true
    · rw [if_pos hc, if_pos hc]
      simp only [bare]
      generalize opStep T F o.op (o.args.map (Arg.ev l)) s = out
      have hih : ∀ r : Value × St, runOps T F (guarded g w os ++ rest) (putL l o.dst r.1) r.2 = (runOps T F (os.map bare) (putL l o.dst r.1) r.2).bind fun r => runOps T F rest r.1 r.2 := fun r => by
        rw [ih, hy, if_pos hc]
      simp only [hih]
      clear hih ih
      induction out with
      | ret r => rfl
      | fail => rfl
      | ask n k ih => simp only [Out.bind]; congr 1; funext i; exact ih i
    · rw [if_neg hc, if_neg hc, ih, hy, if_neg hc]

theorem mem_dsts {os : List AOper} {d : Option Nat} : d ∈ dsts os ↔ ∃ o ∈ os, o.dst = d := by
  induction os with
  | nil => simp [dsts]
  | cons o os ih => simp [dsts, ih, eq_comm]

theorem get_put (e : Env) (d : Option Nat) (v : Value) (k : Nat) : (e.put d v).get? k = if d = some k then some v else e.get? k := by
  cases d with
  | none => simp [Env.put]
  | some d => simp [Env.put, Env.get?]

theorem list_run : ∀ (os : List AOper) (e : Env) (l : List Value) (s : St) (K : Env → St → Prop), EnvOk nt e l → (os.all (dstOk nt)) = true → listE T F os e s K →
    (runOps T F (os.map bare) l s).all fun r => ∃ e', EnvOk nt e' r.1 ∧ K e' r.2 ∧ (∀ k, some k ∉ dsts os → e'.get? k = e.get? k) ∧ ∀ k, (some k ∈ dsts os ∨ (e.get? k).isSome = true) → (e'.get? k).isSome = true
  | [], e, l, s, K, he, _, h => ⟨e, he, h, fun _ _ => rfl, fun k hk => by simpa [dsts] using hk⟩
  | o :: os, e, l, s, K, he, hd, h => by
    simp only [List.all_cons, Bool.and_eq_true] at hd
    simp only [listE, opE] at h
    cases ha : e.args o.args with
    | none => rw [ha] at h; exact h.elim
    | some vs =>
      rw [ha] at h
      simp only at h
      simp only [List.map_cons, bare, runOps, wantedL, if_true]
      rw [Out.all_bind, he.args ha]
      have hd1 : ∀ k, o.dst = some k → k < nt := fun k hk => by
        have := hd.1
        simp only [dstOk, hk] at this
        exact Nat.le_of_ble_eq_true this
      refine Out.all_mono (fun r hr => ?_) (opK_all h)
      have := list_run os _ _ _ K (he.put hd1 r.1) hd.2 hr
      refine Out.all_mono (fun r' hr' => ?_) this
      obtain ⟨e', h1, h2, h3, h4⟩ := hr'
      refine ⟨e', h1, h2, fun k hk => ?_, fun k hk => h4 k ?_⟩
      · rw [h3 k (fun hh => hk (by simp [dsts, hh])), get_put, if_neg (fun hh => hk (by simp [dsts, hh]))]
      · rw [get_put]
        simp only [dsts, List.mem_cons] at hk
        by_cases hod : o.dst = some k
        · right; simp [hod]
        · rw [if_neg hod]
          rcases hk with (hk | hk) | hk
          · exact absurd hk.symm hod
          · exact .inl hk
          · exact .inr hk

theorem putL_get : ∀ (ds : List (Option Nat)) (e : Env) (i : Nat) (vs : List Value) (k : Nat) (v : Value), (e.putL ds i vs).get? k = some v →
    (∃ j : Nat, ds[j]? = some (some k) ∧ v = lget vs (i + j)) ∨ (some k ∉ ds ∧ e.get? k = some v)
  | [], e, i, vs, k, v, h => .inr ⟨by simp, h⟩
  | d :: ds, e, i, vs, k, v, h => by
    simp only [Env.putL] at h
    rcases putL_get ds _ _ vs k v h with ⟨j, h1, h2⟩ | ⟨h1, h2⟩
    · exact .inl ⟨j + 1, by simpa using h1, by rw [h2]; congr 1; omega⟩
    · rw [get_put] at h2
      split at h2
      · rename_i hd
        cases h2
        exact .inl ⟨0, by simp [hd], rfl⟩
      · rename_i hd
        exact .inr ⟨by simp only [List.mem_cons, not_or]; exact ⟨fun hh => hd hh.symm, h1⟩, h2⟩

theorem lget_vals (e : Env) : ∀ (os : List AOper) (j k : Nat), (dsts os)[j]? = some (some k) → lget (vals e os) j = (e.get? k).getD undef
  | [], j, k, h => by simp [dsts] at h
  | o :: os, 0, k, h => by simp [dsts] at h; simp [vals, lget, h]
  | o :: os, j + 1, k, h => by simp only [dsts, List.getElem?_cons_succ] at h; simp only [vals, lget]; exact lget_vals e os j k h

theorem lget_undefs : ∀ (os : List AOper) (j : Nat), lget (undefs os) j = undef
  | [], _ => rfl
  | _ :: os, 0 => rfl
  | _ :: os, j + 1 => lget_undefs os j

theorem undef_fold : ∀ (os : List AOper) (l : List Value), nt ≤ l.length → (os.all (dstOk nt)) = true →
    nt ≤ (os.foldl (fun l o => putL l o.dst undef) l).length ∧ ∀ k, (some k ∈ dsts os → lget (os.foldl (fun l o => putL l o.dst undef) l) k = undef) ∧ (some k ∉ dsts os → lget (os.foldl (fun l o => putL l o.dst undef) l) k = lget l k)
  | [], l, hl, _ => ⟨hl, fun k => ⟨fun h => by simp [dsts] at h, fun _ => rfl⟩⟩
  | o :: os, l, hl, hd => by
    simp only [List.all_cons, Bool.and_eq_true] at hd
    have hlen : (putL l o.dst undef).length = l.length := by cases o.dst <;> simp [putL, lset_length]
    obtain ⟨h1, h2⟩ := undef_fold os (putL l o.dst undef) (by omega) hd.2
    refine ⟨h1, fun k => ⟨fun hk => ?_, fun hk => ?_⟩⟩
    · simp only [List.foldl_cons]
      by_cases hin : some k ∈ dsts os
      · exact (h2 k).1 hin
      · rw [(h2 k).2 hin]
        simp only [dsts, List.mem_cons] at hk
        rcases hk with hk | hk
        · have hlt : k < nt := by
            have := hd.1
            simp only [dstOk, ← hk] at this
            exact Nat.le_of_ble_eq_true this
          rw [← hk]
          exact lget_lset_same undef l k (by omega)
        · exact absurd hk hin
    · simp only [List.foldl_cons]
      simp only [dsts, List.mem_cons, not_or] at hk
      rw [(h2 k).2 hk.2]
      cases ho : o.dst with
      | none => rfl
      | some d =>
        rw [ho] at hk
        exact lget_lset undef l d k (fun hh => hk.1 (by rw [hh]))

theorem grps_run : ∀ (gs : List Grp) (e : Env) (l : List Value) (s : St) (K : Env → St → Prop), EnvOk nt e l → (gs.all (grpOk nt)) = true → grpsE T F gs e s K →
    (runOps T F (flatG gs) l s).all fun r => ∃ e', EnvOk nt e' r.1 ∧ K e' r.2
  | [], e, l, s, K, he, _, h => ⟨e, he, h⟩
  | .one o :: gs, e, l, s, K, he, hd, h => by
    simp only [List.all_cons, Bool.and_eq_true, grpOk] at hd
    simp only [grpsE, opE] at h
    cases ha : e.args o.args with
    | none => rw [ha] at h; exact h.elim
    | some vs =>
      rw [ha] at h
      simp only at h
      simp only [flatG, runOps, wantedL, if_true]
      rw [Out.all_bind, he.args ha]
      have hd1 : ∀ k, o.dst = some k → k < nt := fun k hk => by
        have := hd.1
        simp only [dstOk, hk] at this
        exact Nat.le_of_ble_eq_true this
      refine Out.all_mono (fun r hr => ?_) (opK_all h)
      exact grps_run gs _ _ _ K (he.put hd1 r.1) hd.2 hr
  | .grp g w os :: gs, e, l, s, K, he, hd, h => by
    have ih := grps_run gs
    simp only [List.all_cons, Bool.and_eq_true, grpOk, List.all_eq_true, bne_iff_ne, ne_eq] at hd
    have hd1 : (os.all (dstOk nt)) = true := List.all_eq_true.2 fun o ho => (hd.1 o ho).1
    simp only [flatG]
    rw [grp_run os l s (fun o ho => (hd.1 o ho).2) (flatG gs)]
    simp only [grpsE, joinP] at h
    have no : grpsE T F gs (e.putL (dsts os) 0 (undefs os)) s K → (runOps T F (flatG gs) (os.foldl (fun l o => putL l o.dst undef) l) s).all fun r => ∃ e', EnvOk nt e' r.1 ∧ K e' r.2 := fun h => by
      refine ih _ _ _ K ⟨(undef_fold os l he.len hd1).1, fun k v hk => ?_⟩ (List.all_eq_true.2 hd.2) h
      have hu := (undef_fold os l he.len hd1).2 k
      rcases putL_get _ _ _ _ k v hk with ⟨j, h1, h2⟩ | ⟨h1, h2⟩
      · rw [lget_undefs] at h2
        rw [h2]
        exact hu.1 (List.mem_of_getElem? h1)
      · rw [hu.2 h1]
        exact he.at_ k v h2
    have yes : listE T F os e s (fun e' s' => grpsE T F gs (e.putL (dsts os) 0 (vals e' os)) s' K) → ((runOps T F (os.map bare) l s).bind fun r => runOps T F (flatG gs) r.1 r.2).all fun r => ∃ e', EnvOk nt e' r.1 ∧ K e' r.2 := fun h => by
      rw [Out.all_bind]
      refine Out.all_mono (fun r hr => ?_) (list_run os e l s _ he hd1 h)
      obtain ⟨e', h1, h2, h3, h4⟩ := hr
      refine ih _ _ _ K ⟨h1.len, fun k v hk => ?_⟩ (List.all_eq_true.2 hd.2) h2
      rcases putL_get _ _ _ _ k v hk with ⟨j, k1, k2⟩ | ⟨k1, k2⟩
      · rw [Nat.zero_add, lget_vals e' os j k k1] at k2
        have := h4 k (.inl (List.mem_of_getElem? k1))
        obtain ⟨u, hu⟩ := Option.isSome_iff_exists.1 this
        rw [hu] at k2
        rw [k2]
        exact h1.at_ k _ hu
      · exact h1.at_ k v (by rw [h3 k k1]; exact k2)
    cases hgv : e.get? g with
    | none => rw [hgv] at h; exact h.elim
    | some v =>
      rw [hgv] at h
      have hy := he.at_ g v hgv
      cases v with
      | bool b =>
        simp only [guardP] at h
        have : (yieldedL l g == some w) = (b == w) := by simp [yieldedL, hy]
        rw [this]
        by_cases hb : b = w
        · rw [if_pos hb] at h; rw [if_pos (by simp [hb])]; exact yes h
        · rw [if_neg hb] at h; rw [if_neg (by simp [hb])]; exact no h
      | _ =>
        simp only [guardP] at h
        have : (yieldedL l g == some w) = false := by simp [yieldedL, hy]
        rw [this]
        exact no h

theorem sx_runs : ∀ (c : GC) (e : Env) (s : St) (N : Env → St → Prop) (E : Nat → Env → St → Prop) (R : Env → St → Prop), dstsB nt c = true → sx T F m nt c e s N E R → Runs T F m nt (fromG c) e s N E R
  | .skip, e, s, N, E, R, _, h => fun l he => ⟨e, he, h⟩
  | .exit id, e, s, N, E, R, _, h => fun l he => ⟨e, he, h⟩
  | .ret, e, s, N, E, R, _, h => fun l he => ⟨e, he, h⟩
  | .bad, e, s, N, E, R, _, h => h.elim
  | .loop b, e, s, N, E, R, _, h => h
  | .region gs, e, s, N, E, R, hd, h => fun l he => by
    simp only [fromG, code]
    rw [Out.all_bind]
    exact grps_run gs e l s N he hd h
  | .seq a b, e, s, N, E, R, hd, h => fun l he => by
    simp only [dstsB, Bool.and_eq_true] at hd
    simp only [fromG, code]
    rw [Out.all_bind]
    refine Out.all_mono (fun r hr => ?_) (sx_runs a e s _ E R hd.1 h l he)
    cases r with
    | norm l s =>
      obtain ⟨e', h1, h2⟩ := hr
      exact sx_runs b e' s N E R hd.2 h2 l h1
    | exit id l s => exact hr
    | ret l s => exact hr
  | .cond c x y, e, s, N, E, R, hd, h => fun l he => by
    simp only [dstsB, Bool.and_eq_true] at hd
    simp only [sx] at h
    cases hc : e.arg c with
    | none => rw [hc] at h; exact h.elim
    | some v =>
      rw [hc] at h
      simp only [fromG, code]
      rw [he.arg hc]
      cases v <;> (try (exact h.elim))
      rename_i b
      cases b with
      | true => exact sx_runs x e s N E R hd.1 h l he
      | false => exact sx_runs y e s N E R hd.2 h l he
  | .block id b, e, s, N, E, R, hd, h => fun l he => by
    simp only [fromG, code]
    rw [Out.all_bind]
    refine Out.all_mono (fun r hr => ?_) (sx_runs b e s _ _ R hd h l he)
    cases r with
    | norm l s => exact hr
    | exit id' l s =>
      obtain ⟨e', h1, h2⟩ := hr
      simp only
      split at h2
      · rename_i hid; rw [if_pos hid]; exact ⟨e', h1, h2⟩
      · rename_i hid; rw [if_neg hid]; exact ⟨e', h1, h2⟩
    | ret l s => exact hr

/-- a loop: what holds whenever a round begins (of the slots that are carried on, and of the heap), and what each round lowers -/
theorem loop_rule {b : GC} {e : Env} {s : St} {N : Env → St → Prop} {E : Nat → Env → St → Prop} {R : Env → St → Prop} (live : List Nat) (I : List Value → St → Prop) (μ : List Value → St → Nat) (hb : dstsB nt b = true)
    (h0 : ∃ vs, e.gets live = some vs ∧ I vs s ∧ μ vs s < m)
    (round : ∀ vs s, I vs s → sx T F m nt b (live.zip vs) s (fun e' s' => ∃ vs', e'.gets live = some vs' ∧ I vs' s' ∧ μ vs' s' < μ vs s) E R) : Runs T F m nt (.loop (fromG b)) e s N E R := by
  intro l he
  simp only [code]
  have zip : ∀ (live : List Nat) (e : Env) (l : List Value) (vs : List Value), EnvOk nt e l → e.gets live = some vs → EnvOk nt (live.zip vs) l := by
    intro live e l
    induction live with
    | nil => intro vs he _; exact ⟨he.len, fun k v h => by simp [Env.get?] at h⟩
    | cons k ks ih =>
      intro vs he hg
      simp only [Env.gets] at hg
      split at hg
      · rename_i v hv
        split at hg
        · rename_i vs' hvs
          cases hg
          refine ⟨he.len, fun k' u hk => ?_⟩
          simp only [List.zip_cons_cons, Env.get?] at hk
          split at hk
          · rename_i hkk
            cases hk
            subst hkk
            exact he.at_ _ _ hv
          · exact (ih vs' he hvs).at_ k' u hk
        · cases hg
      · cases hg
  have key : ∀ (k : Nat) (l : List Value) (s : St) (vs : List Value), EnvOk nt (live.zip vs) l → I vs s → μ vs s < k → (iter (code T F m (fromG b)) k l s).all (ResOk nt N E R) := by
    intro k
    induction k with
    | zero => intro l s vs _ _ h; exact absurd h (by omega)
    | succ k ih =>
      intro l s vs he hI hμ
      simp only [iter]
      rw [Out.all_bind]
      refine Out.all_mono (fun r hr => ?_) (sx_runs b _ s _ E R hb (round vs s hI) l he)
      cases r with
      | norm l s =>
        obtain ⟨e', h1, vs', h2, h3, h4⟩ := hr
        exact ih l s vs' (zip live e' l vs' h1 h2) h3 (by omega)
      | exit id l s => exact hr
      | ret l s => exact hr
  obtain ⟨vs, h1, h2, h3⟩ := h0
  exact key m l s vs (zip live e l vs he h1) h2 h3

/-! ### functions -/
def lookFn : List (Nat × GFn) → FuncId → Option AFn
  | [], _ => none
  | (k, fn) :: r, f => if k = f then some (fromGFn fn) else lookFn r f

def AllOk (P : Program) : List (Nat × GFn) → Prop
  | [] => True
  | (k, fn) :: r => compFn P k = some (fromGFn fn) ∧ AllOk P r

theorem lookFn_ok {P : Program} : ∀ {t : List (Nat × GFn)}, AllOk P t → ∀ f fn, lookFn t f = some fn → compFn P f = some fn
  | [], _, f, fn, h => by simp [lookFn] at h
  | (k, g) :: r, ha, f, fn, h => by
    simp only [lookFn] at h
    split at h
    · rename_i hk; injection h with h; rw [← h, ← hk]; exact ha.1
    · exact lookFn_ok ha.2 f fn h

def argsEnv : Nat → List Value → Env
  | _, [] => []
  | i, v :: vs => (i, v) :: argsEnv (i + 1) vs

def res1E (e : Env) (s : St) : Nat × Nat → Option Value
  | (t, 0) => e.get? t
  | (t, 1) => match e.get? t with
    | some v => rop .load1 [v] s
    | none => none
  | (t, n + 2) => match e.get? t with
    | some v => rop (.loadN n) [v] s
    | none => none

def resE (e : Env) (s : St) : List (Nat × Nat) → Option (List Value)
  | [] => some []
  | r :: rs => match res1E e s r with
    | some v => match resE e s rs with
      | some vs => some (v :: vs)
      | none => none
    | none => none

def tupled : List Value → Value
  | [v] => v
  | vs => .tuple vs.toArray

def resP (e : Env) (s : St) (rs : List (Nat × Nat)) (Q : Value → St → Prop) : Prop :=
  match resE e s rs with
  | some vs => Q (tupled vs) s
  | none => False

/-- what is asked of a function's run -/
def fnP (T : Tab) (F : CallF) (m : Nat) (fn : GFn) (args : List Value) (s : St) (Q : Value → St → Prop) : Prop :=
  sx T F m fn.ntmps fn.body (argsEnv 0 args) s (fun e s => resP e s fn.results Q) (fun _ _ _ => False) fun e s => resP e s fn.results Q

def fnB (fn : GFn) : Bool := dstsB fn.ntmps fn.body && !gPush fn.body

/-- what was deferred is done -/
def defsK (D : CallF) : List Value → St → (St → Prop) → Prop
  | .func (.func f) first cap :: es, s, K => callK D f (first.toList ++ cap.toList) s fun _ s => defsK D es s K
  | .nilIface :: _, s, K => K s
  | _, _, _ => False

/-- the end of a function that defers -/
def endK (D : CallF) (nt : Nat) (e : Env) (s : St) (rs : List (Nat × Nat)) (Q : Value → St → Prop) : Prop :=
  match e.get? nt with
  | some (.tuple es) => defsK D es.toList s fun s => resP e s rs Q
  | _ => False

/-- what is asked of the run of a function that defers -/
def fnD (T : Tab) (F D : CallF) (m : Nat) (fn : GFn) (args : List Value) (s : St) (Q : Value → St → Prop) : Prop :=
  sx T F m (fn.ntmps + 1) fn.body ((fn.ntmps, .tuple #[.nilIface]) :: argsEnv 0 args) s (fun e s => endK D fn.ntmps e s fn.results Q) (fun _ _ _ => False) fun e s => endK D fn.ntmps e s fn.results Q

def fnDB (fn : GFn) : Bool := dstsB (fn.ntmps + 1) fn.body && gPush fn.body

theorem argsEnv_get : ∀ (args : List Value) (i k : Nat) (v : Value), (argsEnv i args).get? k = some v → ∃ j, k = i + j ∧ args[j]? = some v
  | [], i, k, v, h => by simp [argsEnv, Env.get?] at h
  | a :: args, i, k, v, h => by
    simp only [argsEnv, Env.get?] at h
    split at h
    · rename_i he; cases h; exact ⟨0, by omega, rfl⟩
    · obtain ⟨j, h1, h2⟩ := argsEnv_get args (i + 1) k v h
      exact ⟨j + 1, by omega, by simpa using h2⟩

theorem lget_eq (l : List Value) (k : Nat) {v : Value} (h : l[k]? = some v) : lget l k = v := by
  induction l generalizing k with
  | nil => simp at h
  | cons x l ih => cases k with
    | zero => simpa [lget] using h
    | succ k => simp only [lget]; exact ih k (by simpa using h)

theorem resE_ok {e : Env} {l : List Value} (he : EnvOk nt e l) {s : St} : ∀ {rs : List (Nat × Nat)} {vs : List Value}, resE e s rs = some vs → resultsL l s rs = some vs
  | [], vs, h => by simp [resE] at h; simp [resultsL, h]
  | r :: rs, vs, h => by
    simp only [resE] at h
    split at h
    · rename_i v hv
      split at h
      · rename_i vs' hvs
        cases h
        have h1 : results1 l s r = some v := by
          obtain ⟨t, n⟩ := r
          match n with
          | 0 => simp only [res1E] at hv; simp only [results1]; rw [he.at_ t v hv]
          | 1 =>
            simp only [res1E] at hv
            cases hg : e.get? t with
            | none => rw [hg] at hv; cases hv
            | some u => rw [hg] at hv; simp only [results1]; rw [he.at_ t u hg]; exact hv
          | n + 2 =>
            simp only [res1E] at hv
            cases hg : e.get? t with
            | none => rw [hg] at hv; cases hv
            | some u => rw [hg] at hv; simp only [results1]; rw [he.at_ t u hg]; exact hv
        simp only [resultsL, h1, Option.bind_some, resE_ok he hvs, Option.map_some]
      · cases h
    · cases h

theorem tupled_ok {l : List Value} {s : St} {rs : List (Nat × Nat)} {vs : List Value} (h : resultsL l s rs = some vs) : resultV l s rs = some (tupled vs) := by
  unfold resultV
  rw [h]
  match vs with
  | [] => rfl
  | [v] => rfl
  | _ :: _ :: _ => rfl

theorem fn_runs {O : CallF} {fns : FuncId → Option AFn} {n : Nat} {f : FuncId} {fn : GFn} (hf : fns f = some (fromGFn fn)) (hb : fnB fn = true) {args : List Value} {s : St} {Q : Value → St → Prop}
    (h : fnP T (callO T O fns m n) m fn args s Q) : callK (callO T O fns m (n + 1)) f args s Q := by
  unfold callK
  simp only [fnB, Bool.and_eq_true, Bool.not_eq_true'] at hb
  simp only [callO, hf, fromGFn, hb.2]
  replace hb := hb.1
  rw [Out.all_bind]
  have he : EnvOk fn.ntmps (argsEnv 0 args) (padded args fn.ntmps) := by
    refine ⟨by simp [padded]; omega, fun k v hk => ?_⟩
    obtain ⟨j, h1, h2⟩ := argsEnv_get args 0 k v hk
    have hlt : j < args.length := by
      by_cases hj : j < args.length
      · exact hj
      · rw [List.getElem?_eq_none (by omega)] at h2; cases h2
    refine lget_eq _ _ ?_
    rw [padded, h1, Nat.zero_add, List.getElem?_append_left hlt]
    exact h2
  refine Out.all_mono (fun r hr => ?_) (sx_runs fn.body _ s _ _ _ hb h _ he)
  have fin : ∀ l s', (∃ e, EnvOk fn.ntmps e l ∧ resP e s' fn.results Q) → (resO fn.results l s').all fun r => Q r.1 r.2 := fun l s' hh => by
    obtain ⟨e, h1, h2⟩ := hh
    unfold resP at h2
    unfold resO
    cases hv : resE e s' fn.results with
    | none => rw [hv] at h2; exact h2.elim
    | some vs =>
      rw [hv] at h2
      rw [tupled_ok (resE_ok h1 hv)]
      exact h2
  cases r with
  | norm l s => exact fin l s hr
  | ret l s => exact fin l s hr
  | exit id l s => obtain ⟨e, _, h⟩ := hr; exact h.elim

theorem defsK_runs {D : CallF} {rs : List (Nat × Nat)} {l : List Value} {e : Env} {nt : Nat} (he : EnvOk nt e l) {Q : Value → St → Prop} : ∀ (es : List Value) (s : St), defsK D es s (fun s => resP e s rs Q) → ((runDefs D es s).bind fun s => resO rs l s).all fun r => Q r.1 r.2 := by
  intro es
  induction es with
  | nil => intro s h; simp only [defsK] at h
  | cons v es ih =>
    intro s h
    cases v <;> (try (simp only [defsK] at h; done))
    · rename_i fn first cap
      cases fn <;> (try (simp only [defsK] at h; done))
      rename_i f
      simp only [defsK, callK] at h
      simp only [runDefs]
      rw [Out.all_bind, Out.all_bind]
      refine Out.all_mono (fun r hr => ?_) h
      have := ih r.2 hr
      rw [Out.all_bind] at this
      exact this
    · simp only [defsK] at h
      simp only [runDefs, Out.bind]
      unfold resP at h
      unfold resO
      cases hv : resE e s rs with
      | none => rw [hv] at h; exact h.elim
      | some vs =>
        rw [hv] at h
        rw [tupled_ok (resE_ok he hv)]
        exact h

theorem fnD_runs {O : CallF} {fns : FuncId → Option AFn} {n : Nat} {f : FuncId} {fn : GFn} (hf : fns f = some (fromGFn fn)) (hb : fnDB fn = true) {args : List Value} (hle : Nat.ble args.length fn.ntmps = true) {s : St} {Q : Value → St → Prop}
    (h : fnD T (callO T O fns m n) (deferF T fns n (callO T O fns m n)) m fn args s Q) : callK (callO T O fns m (n + 1)) f args s Q := by
  unfold callK
  simp only [fnDB, Bool.and_eq_true] at hb
  simp only [callO, hf, fromGFn, hb.2, hle, cond_true]
  replace hb := hb.1
  rw [Out.all_bind]
  have hle' : args.length ≤ fn.ntmps := Nat.le_of_ble_eq_true hle
  have hlen : (padded args fn.ntmps).length = fn.ntmps := by simp [padded]; omega
  have he : EnvOk (fn.ntmps + 1) ((fn.ntmps, .tuple #[.nilIface]) :: argsEnv 0 args) (padded args fn.ntmps ++ [.tuple #[.nilIface]]) := by
    refine ⟨by simp [hlen], fun k v hk => ?_⟩
    simp only [Env.get?] at hk
    split at hk
    · rename_i he
      cases hk
      have := @lget_at (padded args fn.ntmps) (.tuple #[.nilIface])
      rw [hlen] at this
      rw [← he]
      exact this
    · obtain ⟨j, h1, h2⟩ := argsEnv_get args 0 k v hk
      have hlt : j < args.length := by
        by_cases hj : j < args.length
        · exact hj
        · rw [List.getElem?_eq_none (by omega)] at h2; cases h2
      refine lget_eq _ _ ?_
      rw [List.getElem?_append_left (by omega), padded, h1, Nat.zero_add, List.getElem?_append_left hlt]
      exact h2
  refine Out.all_mono (fun r hr => ?_) (sx_runs fn.body _ s _ _ _ hb h _ he)
  have fin : ∀ l s', (∃ e, EnvOk (fn.ntmps + 1) e l ∧ endK (deferF T fns n (callO T O fns m n)) fn.ntmps e s' fn.results Q) → (endD (deferF T fns n (callO T O fns m n)) fn.ntmps fn.results l s').all fun r => Q r.1 r.2 := fun l s' hh => by
    obtain ⟨e, h1, h2⟩ := hh
    unfold endK at h2
    unfold endD
    cases hg : e.get? fn.ntmps with
    | none => rw [hg] at h2; exact h2.elim
    | some v =>
      rw [hg] at h2
      cases v <;> (try (exact h2.elim))
      rw [h1.at_ _ _ hg]
      exact defsK_runs h1 _ _ h2
  cases r with
  | norm l s => exact fin l s hr
  | ret l s => exact fin l s hr
  | exit id l s => obtain ⟨e, _, h⟩ := hr; exact h.elim

theorem deferK {T : Tab} {O : CallF} {fns : FuncId → Option AFn} {n m : Nat} {f : FuncId} {fn : GFn} (hf : fns f = some (fromGFn fn)) (hp : gPush fn.body = false) (args : List Value) (s : St) (K : Value → St → Prop) : callK (deferF T fns (n + 1) (callO T O fns m (n + 1))) f args s K = callK (callO T O fns m (n + 1)) f args s K := by
  unfold callK
  simp only [deferF, hf, fromGFn, hp, cond_false]

/-- a deferred call of a function whose text is not at hand -/
theorem deferO {T : Tab} {C : CallF} {fns : FuncId → Option AFn} {n : Nat} {f : FuncId} (hf : fns f = none) (args : List Value) (s : St) (K : Value → St → Prop) : callK (deferF T fns n C) f args s K = callK T.dfr f args s K := by
  unfold callK
  simp only [deferF, hf]

/-- a function that is one value, one heap -/
theorem callK_ret {F : CallF} {f : FuncId} {args : List Value} {s : St} {v : Value} {s' : St} (h : F f args s = .ret (v, s')) {K : Value → St → Prop} : callK F f args s K ↔ K v s' := by
  unfold callK
  rw [h]
  rfl

theorem callK_mono {F : CallF} {f : FuncId} {args : List Value} {s : St} {Q K : Value → St → Prop} (h : callK F f args s Q) (hk : ∀ v s', Q v s' → K v s') : callK F f args s K := Out.all_mono (fun r hr => hk r.1 r.2 hr) h

end
end Go.Am
end
section
set_option linter.unusedSimpArgs false
set_option linter.unusedVariables false
set_option maxRecDepth 10000
namespace Go.Am


def getK (o : Option AObj) (K : AObj → Prop) : Prop :=
  match o with
  | some a => K a
  | none => False

def nthK (cs : List Value) (o : Nat) (K : Value → Prop) : Prop :=
  match cs[o]? with
  | some v => K v
  | none => False

def rowK (ob : AObj) (K : List Value → Nat → Bool → Prop) : Prop :=
  match ob with
  | .row cs g ro => K cs g ro
  | _ => False

def mapK (ob : AObj) (K : List (Value × Value × Nat) → Nat → Prop) : Prop :=
  match ob with
  | .map es c => K es c
  | _ => False

/-- a lookup's value, out of where the key was found -/
def lookK (r : Option (Option (Nat × Value))) (zero : Value) (ok : Bool) (K : Value → Prop) : Prop :=
  match r with
  | some (some (_, v)) => K (bif ok then .tuple #[v, .bool true] else v)
  | some none => K (bif ok then .tuple #[zero, .bool false] else zero)
  | none => False

/-- a map behind a key's setting -/
def setK (r : Option (Option (Nat × Value))) (k v : Value) (es : List (Value × Value × Nat)) (c : Nat) (K : List (Value × Value × Nat) → Nat → Prop) : Prop :=
  match r with
  | some (some (i, _)) => K (es.modify i fun e => (k, v, e.2.2)) c
  | some none => K (es ++ [(k, v, c)]) (c + 1)
  | none => False

/-- a slot's value goes on -/
def getE (e : Env) (n : Nat) (K : Value → Prop) : Prop :=
  match e.get? n with
  | some v => K v
  | none => False

def argE (e : Env) (a : Arg) (K : Value → Prop) : Prop :=
  match e.arg a with
  | some v => K v
  | none => False

def argsE (e : Env) (as : List Arg) (K : List Value → Prop) : Prop :=
  match e.args as with
  | some vs => K vs
  | none => False

theorem getE_cons (k : Nat) (v : Value) (e : Env) (n : Nat) (K : Value → Prop) : getE ((k, v) :: e) n K = if k = n then K v else getE e n K := by
  unfold getE
  simp only [Env.get?]
  by_cases h : k = n
  · rw [if_pos h, if_pos h]
  · rw [if_neg h, if_neg h]
theorem argE_t (e : Env) (n : Nat) (K : Value → Prop) : argE e (.t n) K = getE e n K := of_eq_true (eq_self _)
theorem argE_c (e : Env) (v : Value) (K : Value → Prop) : argE e (.c v) K = K v := of_eq_true (eq_self _)
theorem argE_g (e : Env) (n : Nat) (K : Value → Prop) : argE e (.g n) K = K (.pointer (some ⟨n, 0, none⟩)) := of_eq_true (eq_self _)
theorem argsE_nil (e : Env) (K : List Value → Prop) : argsE e [] K = K [] := of_eq_true (eq_self _)
theorem argsE_cons (e : Env) (a : Arg) (as : List Arg) (K : List Value → Prop) : argsE e (a :: as) K = argE e a fun v => argsE e as fun vs => K (v :: vs) := by
  unfold argE argsE
  simp only [Env.args]
  cases e.arg a <;> simp only
  cases e.args as <;> simp only
theorem opE_eq (T : Tab) (F : CallF) (d : Option Nat) (op : AOp) (as : List Arg) (g : Option (Nat × Bool)) (e : Env) (s : St) (K : Value → St → Prop) : opE T F ⟨d, op, as, g⟩ e s K = argsE e as fun vs => opK T F op vs s K := of_eq_true (eq_self _)
theorem listE_nil (T : Tab) (F : CallF) (e : Env) (s : St) (K : Env → St → Prop) : listE T F [] e s K = K e s := of_eq_true (eq_self _)
theorem listE_some (T : Tab) (F : CallF) (d : Nat) (op : AOp) (as : List Arg) (g : Option (Nat × Bool)) (os : List AOper) (e : Env) (s : St) (K : Env → St → Prop) : listE T F (⟨some d, op, as, g⟩ :: os) e s K = argsE e as fun vs => opK T F op vs s fun v s => listE T F os ((d, v) :: e) s K := of_eq_true (eq_self _)
theorem listE_none (T : Tab) (F : CallF) (op : AOp) (as : List Arg) (g : Option (Nat × Bool)) (os : List AOper) (e : Env) (s : St) (K : Env → St → Prop) : listE T F (⟨none, op, as, g⟩ :: os) e s K = argsE e as fun vs => opK T F op vs s fun _ s => listE T F os e s K := of_eq_true (eq_self _)
theorem grpsE_nil (T : Tab) (F : CallF) (e : Env) (s : St) (K : Env → St → Prop) : grpsE T F [] e s K = K e s := of_eq_true (eq_self _)
theorem grpsE_some (T : Tab) (F : CallF) (d : Nat) (op : AOp) (as : List Arg) (g : Option (Nat × Bool)) (gs : List Grp) (e : Env) (s : St) (K : Env → St → Prop) : grpsE T F (.one ⟨some d, op, as, g⟩ :: gs) e s K = argsE e as fun vs => opK T F op vs s fun v s => grpsE T F gs ((d, v) :: e) s K := of_eq_true (eq_self _)
theorem grpsE_none (T : Tab) (F : CallF) (op : AOp) (as : List Arg) (g : Option (Nat × Bool)) (gs : List Grp) (e : Env) (s : St) (K : Env → St → Prop) : grpsE T F (.one ⟨none, op, as, g⟩ :: gs) e s K = argsE e as fun vs => opK T F op vs s fun _ s => grpsE T F gs e s K := of_eq_true (eq_self _)
/-- a slot's value, or none -/
def getU (e : Env) (n : Nat) (K : Value → Prop) : Prop := K ((e.get? n).getD undef)
theorem getU_cons (k : Nat) (v : Value) (e : Env) (n : Nat) (K : Value → Prop) : getU ((k, v) :: e) n K = if k = n then K v else getU e n K := by
  unfold getU
  simp only [Env.get?]
  by_cases h : k = n
  · rw [if_pos h, if_pos h]; rfl
  · rw [if_neg h, if_neg h]
/-- the slots of a group become what they are in another env -/
def putK (e : Env) : List AOper → Env → (Env → Prop) → Prop
  | [], _, K => K e
  | o :: os, e', K => match o.dst with
    | some d => getU e' d fun v => putK ((d, v) :: e) os e' K
    | none => putK e os e' K
def putU (e : Env) : List AOper → (Env → Prop) → Prop
  | [], K => K e
  | o :: os, K => match o.dst with
    | some d => putU ((d, undef) :: e) os K
    | none => putU e os K
theorem putK_nil (e e' : Env) (K : Env → Prop) : putK e [] e' K = K e := of_eq_true (eq_self _)
theorem putK_some (e e' : Env) (K : Env → Prop) (d : Nat) (op : AOp) (as : List Arg) (g : Option (Nat × Bool)) (os : List AOper) : putK e (⟨some d, op, as, g⟩ :: os) e' K = getU e' d fun v => putK ((d, v) :: e) os e' K := of_eq_true (eq_self _)
theorem putK_none (e e' : Env) (K : Env → Prop) (op : AOp) (as : List Arg) (g : Option (Nat × Bool)) (os : List AOper) : putK e (⟨none, op, as, g⟩ :: os) e' K = putK e os e' K := of_eq_true (eq_self _)
theorem putU_nil (e : Env) (K : Env → Prop) : putU e [] K = K e := of_eq_true (eq_self _)
theorem putU_some (e : Env) (K : Env → Prop) (d : Nat) (op : AOp) (as : List Arg) (g : Option (Nat × Bool)) (os : List AOper) : putU e (⟨some d, op, as, g⟩ :: os) K = putU ((d, undef) :: e) os K := of_eq_true (eq_self _)
theorem putU_none (e : Env) (K : Env → Prop) (op : AOp) (as : List Arg) (g : Option (Nat × Bool)) (os : List AOper) : putU e (⟨none, op, as, g⟩ :: os) K = putU e os K := of_eq_true (eq_self _)
theorem putK_ok (e' : Env) (K : Env → Prop) (vs : List Value) : ∀ (os : List AOper) (e : Env) (i : Nat), (∀ j, j < os.length → lget vs (i + j) = lget (vals e' os) j) → K (e.putL (dsts os) i vs) = putK e os e' K
  | [], e, i, _ => rfl
  | o :: os, e, i, h => by
    have h0 := h 0 (by simp)
    have hr : ∀ j, j < os.length → lget vs (i + 1 + j) = lget (vals e' os) j := fun j hj => by
      have := h (j + 1) (by simpa using hj)
      rw [show i + 1 + j = i + (j + 1) by omega, this]
      rfl
    obtain ⟨d, op, as, g⟩ := o
    cases d with
    | none => exact putK_ok e' K vs os e (i + 1) hr
    | some d =>
      show K (Env.putL ((d, lget vs i) :: e) (dsts os) (i + 1) vs) = putK ((d, (e'.get? d).getD undef) :: e) os e' K
      rw [putK_ok e' K vs os _ (i + 1) hr]
      have : lget vs i = (e'.get? d).getD undef := by simpa [vals, lget] using h0
      rw [this]
theorem putU_ok (K : Env → Prop) (vs : List Value) : ∀ (os : List AOper) (e : Env) (i : Nat), (∀ j, lget vs (i + j) = undef) → K (e.putL (dsts os) i vs) = putU e os K
  | [], e, i, _ => rfl
  | o :: os, e, i, h => by
    have hr : ∀ j, lget vs (i + 1 + j) = undef := fun j => by rw [show i + 1 + j = i + (j + 1) by omega]; exact h (j + 1)
    obtain ⟨d, op, as, g⟩ := o
    cases d with
    | none => exact putU_ok K vs os e (i + 1) hr
    | some d =>
      show K (Env.putL ((d, lget vs i) :: e) (dsts os) (i + 1) vs) = putU ((d, undef) :: e) os K
      rw [putU_ok K vs os _ (i + 1) hr, show lget vs i = undef from h 0]
/-- a group whose guard lets in, or does not -/
def grpJ (v : Value) (w : Bool) (A : Prop) (B : Prop) : Prop :=
  match v with
  | .bool b => if b = w then A else B
  | _ => B
theorem grpsE_grp (T : Tab) (F : CallF) (g : Nat) (w : Bool) (os : List AOper) (gs : List Grp) (e : Env) (s : St) (K : Env → St → Prop) : grpsE T F (.grp g w os :: gs) e s K =
    getE e g fun v => grpJ v w (listE T F os e s fun e' s' => putK e os e' fun e => grpsE T F gs e s' K) (putU e os fun e => grpsE T F gs e s K) := by
  have h1 : ∀ e' s', grpsE T F gs (e.putL (dsts os) 0 (vals e' os)) s' K = putK e os e' fun e => grpsE T F gs e s' K := fun e' s' => putK_ok e' (fun e => grpsE T F gs e s' K) _ os e 0 fun j _ => by rw [Nat.zero_add]
  have h2 : grpsE T F gs (e.putL (dsts os) 0 (undefs os)) s K = putU e os fun e => grpsE T F gs e s K := putU_ok (fun e => grpsE T F gs e s K) _ os e 0 fun j => lget_undefs os _
  simp only [grpsE, joinP, getE, h1, h2]
  cases e.get? g with
  | none => rfl
  | some v => cases v <;> rfl
theorem grpJ_yes {v : Value} {w : Bool} {A B : Prop} (h : v = .bool w) : grpJ v w A B = A := by rw [h]; exact if_pos rfl
/-- a guard that does not let in -/
def isNo : Value → Bool → Bool
  | .bool b, w => b != w
  | _, _ => true
theorem isNo_bool (b w : Bool) : isNo (.bool b) w = (b != w) := of_eq_true (eq_self _)
theorem isNo_undef (w : Bool) : isNo undef w = true := of_eq_true (eq_self _)
theorem isNo_tuple (vs : Array Value) (w : Bool) : isNo (.tuple vs) w = true := of_eq_true (eq_self _)
theorem grpJ_no {v : Value} {w : Bool} {A B : Prop} (h : isNo v w = true) : grpJ v w A B = B := by
  cases v <;> try rfl
  rename_i b
  simp only [isNo, bne_iff_ne, ne_eq] at h
  exact if_neg h
section sxs
variable (T : Tab) (F : CallF) (m nt : Nat) (e : Env) (s : St) (N : Env → St → Prop) (E : Nat → Env → St → Prop) (R : Env → St → Prop)
theorem sx_skip : sx T F m nt .skip e s N E R = N e s := of_eq_true (eq_self _)
theorem sx_region (gs : List Grp) : sx T F m nt (.region gs) e s N E R = grpsE T F gs e s N := of_eq_true (eq_self _)
theorem sx_seq (a b : GC) : sx T F m nt (.seq a b) e s N E R = sx T F m nt a e s (fun e s => sx T F m nt b e s N E R) E R := of_eq_true (eq_self _)
def condK (v : Value) (A B : Prop) : Prop := condP (some v) A B
theorem sx_cond (c : Arg) (x y : GC) : sx T F m nt (.cond c x y) e s N E R = argE e c fun v => condK v (sx T F m nt x e s N E R) (sx T F m nt y e s N E R) := by
  simp only [sx, argE, condK]
  cases e.arg c <;> rfl
theorem sx_block (id : Nat) (b : GC) : sx T F m nt (.block id b) e s N E R = sx T F m nt b e s N (fun id' e s => if id' = id then N e s else E id' e s) R := of_eq_true (eq_self _)
theorem sx_loop (b : GC) : sx T F m nt (.loop b) e s N E R = Runs T F m nt (.loop (fromG b)) e s N E R := of_eq_true (eq_self _)
theorem sx_exit (id : Nat) : sx T F m nt (.exit id) e s N E R = E id e s := of_eq_true (eq_self _)
theorem sx_ret : sx T F m nt .ret e s N E R = R e s := of_eq_true (eq_self _)
theorem condK_yes {v : Value} {A B : Prop} (h : v = .bool true) : condK v A B = A := by rw [h]; show (if true = true then A else B) = A; rw [if_pos rfl]
theorem condK_no {v : Value} {A B : Prop} (h : v = .bool false) : condK v A B = B := by rw [h]; show (if false = true then A else B) = B; rw [if_neg (by decide)]
theorem fnP_0 (nt : Nat) (body : GC) (rs : List (Nat × Nat)) (Q : Value → St → Prop) : fnP T F m ⟨nt, body, rs⟩ [] s Q = sx T F m nt body [] s (fun e s => resP e s rs Q) (fun _ _ _ => False) fun e s => resP e s rs Q := of_eq_true (eq_self _)
theorem fnP_1 (nt : Nat) (body : GC) (rs : List (Nat × Nat)) (a : Value) (Q : Value → St → Prop) : fnP T F m ⟨nt, body, rs⟩ [a] s Q = sx T F m nt body [(0, a)] s (fun e s => resP e s rs Q) (fun _ _ _ => False) fun e s => resP e s rs Q := of_eq_true (eq_self _)
theorem fnP_2 (nt : Nat) (body : GC) (rs : List (Nat × Nat)) (a b : Value) (Q : Value → St → Prop) : fnP T F m ⟨nt, body, rs⟩ [a, b] s Q = sx T F m nt body [(0, a), (1, b)] s (fun e s => resP e s rs Q) (fun _ _ _ => False) fun e s => resP e s rs Q := of_eq_true (eq_self _)
theorem fnP_3 (nt : Nat) (body : GC) (rs : List (Nat × Nat)) (a b c : Value) (Q : Value → St → Prop) : fnP T F m ⟨nt, body, rs⟩ [a, b, c] s Q = sx T F m nt body [(0, a), (1, b), (2, c)] s (fun e s => resP e s rs Q) (fun _ _ _ => False) fun e s => resP e s rs Q := of_eq_true (eq_self _)
theorem fnP_4 (nt : Nat) (body : GC) (rs : List (Nat × Nat)) (a b c d : Value) (Q : Value → St → Prop) : fnP T F m ⟨nt, body, rs⟩ [a, b, c, d] s Q = sx T F m nt body [(0, a), (1, b), (2, c), (3, d)] s (fun e s => resP e s rs Q) (fun _ _ _ => False) fun e s => resP e s rs Q := of_eq_true (eq_self _)
theorem opK_p (o : POp) (vs : List Value) (K : Value → St → Prop) : opK T F (.p o) vs s K = popK o vs fun v => K v s := of_eq_true (eq_self _)
theorem opK_r (o : ROp) (vs : List Value) (K : Value → St → Prop) : opK T F (.r o) vs s K = ropK o vs s fun v => K v s := of_eq_true (eq_self _)
theorem opK_w (o : WOp) (vs : List Value) (K : Value → St → Prop) : opK T F (.w o) vs s K = wopK o vs s K := of_eq_true (eq_self _)
theorem opK_next (b : Bool) (vs : List Value) (K : Value → St → Prop) : opK T F (.next b) vs s K = nextK b vs s K := of_eq_true (eq_self _)
theorem opK_call (f : FuncId) (vs : List Value) (K : Value → St → Prop) : opK T F (.call f) vs s K = callK F f vs s K := of_eq_true (eq_self _)
theorem opK_callV (f : FuncId) (a b : Array Value) (vs : List Value) (K : Value → St → Prop) : opK T F .callV (.func (.func f) a b :: vs) s K = callK F f (a.toList ++ vs ++ b.toList) s K := of_eq_true (eq_self _)
theorem opK_invoke (name : String) (t : TypeId) (v : Value) (vs : List Value) (f : FuncId) (K : Value → St → Prop) (h : T.meth t name = some f) : opK T F (.invoke name) (.iface t v :: vs) s K = callK F f (v :: vs) s K := by
  simp only [opK, h]
end sxs
def defsV (D : CallF) (v : Value) (s : St) (K : St → Prop) : Prop :=
  match v with
  | .tuple es => defsK D es.toList s K
  | _ => False
theorem defsV_tuple (D : CallF) (es : Array Value) (s : St) (K : St → Prop) : defsV D (.tuple es) s K = defsK D es.toList s K := of_eq_true (eq_self _)
theorem defsK_func (D : CallF) (f : FuncId) (first cap : Array Value) (es : List Value) (s : St) (K : St → Prop) : defsK D (.func (.func f) first cap :: es) s K = callK D f (first.toList ++ cap.toList) s fun _ s => defsK D es s K := of_eq_true (eq_self _)
theorem defsK_end (D : CallF) (es : List Value) (s : St) (K : St → Prop) : defsK D (.nilIface :: es) s K = K s := of_eq_true (eq_self _)
theorem endK_get (D : CallF) (nt : Nat) (e : Env) (s : St) (rs : List (Nat × Nat)) (Q : Value → St → Prop) : endK D nt e s rs Q = getE e nt fun v => defsV D v s fun s => resP e s rs Q := by
  unfold endK getE
  cases e.get? nt with
  | none => rfl
  | some v => cases v <;> rfl
theorem fnD_1 {T : Tab} {F : CallF} {m : Nat} {s : St} (D : CallF) (nt : Nat) (body : GC) (rs : List (Nat × Nat)) (a : Value) (Q : Value → St → Prop) : fnD T F D m ⟨nt, body, rs⟩ [a] s Q = sx T F m (nt + 1) body [(nt, .tuple #[.nilIface]), (0, a)] s (fun e s => endK D nt e s rs Q) (fun _ _ _ => False) fun e s => endK D nt e s rs Q := of_eq_true (eq_self _)
theorem fnD_2 {T : Tab} {F : CallF} {m : Nat} {s : St} (D : CallF) (nt : Nat) (body : GC) (rs : List (Nat × Nat)) (a b : Value) (Q : Value → St → Prop) : fnD T F D m ⟨nt, body, rs⟩ [a, b] s Q = sx T F m (nt + 1) body [(nt, .tuple #[.nilIface]), (0, a), (1, b)] s (fun e s => endK D nt e s rs Q) (fun _ _ _ => False) fun e s => endK D nt e s rs Q := of_eq_true (eq_self _)
theorem fnD_3 {T : Tab} {F : CallF} {m : Nat} {s : St} (D : CallF) (nt : Nat) (body : GC) (rs : List (Nat × Nat)) (a b c : Value) (Q : Value → St → Prop) : fnD T F D m ⟨nt, body, rs⟩ [a, b, c] s Q = sx T F m (nt + 1) body [(nt, .tuple #[.nilIface]), (0, a), (1, b), (2, c)] s (fun e s => endK D nt e s rs Q) (fun _ _ _ => False) fun e s => endK D nt e s rs Q := of_eq_true (eq_self _)
theorem pk_push (e : Value) (es : List Value) (f : FuncId) (first cap : Array Value) (vs : List Value) (K : Value → Prop) : popK .push (.tuple (e :: es).toArray :: .func (.func f) first cap :: vs) K = K (.tuple (.func (.func f) (first.toList ++ vs).toArray cap :: e :: es).toArray) := by
  simp [popK, pop]
theorem resP_0 (e : Env) (s : St) (Q : Value → St → Prop) : resP e s [] Q = Q (.tuple #[]) s := of_eq_true (eq_self _)
theorem resP_1 (e : Env) (s : St) (a : Nat) (Q : Value → St → Prop) : resP e s [(a, 0)] Q = getE e a fun v => Q v s := by
  unfold resP getE
  simp only [resE, res1E]
  cases e.get? a <;> rfl
theorem resP_2 (e : Env) (s : St) (a b : Nat) (Q : Value → St → Prop) : resP e s [(a, 0), (b, 0)] Q = getE e a fun u => getE e b fun v => Q (.tuple #[u, v]) s := by
  unfold resP getE
  simp only [resE, res1E]
  cases e.get? a <;> cases e.get? b <;> rfl
theorem resP_3 (e : Env) (s : St) (a b c : Nat) (Q : Value → St → Prop) : resP e s [(a, 0), (b, 0), (c, 0)] Q = getE e a fun u => getE e b fun v => getE e c fun w => Q (.tuple #[u, v, w]) s := by
  unfold resP getE
  simp only [resE, res1E]
  cases e.get? a <;> cases e.get? b <;> cases e.get? c <;> rfl

section
variable {K : Value → Prop} {W : Value → St → Prop} {s : St}

theorem getK_some (a : AObj) (K : AObj → Prop) : getK (some a) K = K a := of_eq_true (eq_self _)
theorem getK_none (K : AObj → Prop) : getK none K = False := of_eq_true (eq_self _)
theorem rowK_row (cs : List Value) (g : Nat) (ro : Bool) (K : List Value → Nat → Bool → Prop) : rowK (.row cs g ro) K = K cs g ro := of_eq_true (eq_self _)
theorem mapK_map (es : List (Value × Value × Nat)) (c : Nat) (K : List (Value × Value × Nat) → Nat → Prop) : mapK (.map es c) K = K es c := of_eq_true (eq_self _)
theorem nthK_zero (v : Value) (l : List Value) : nthK (v :: l) 0 K = K v := of_eq_true (eq_self _)
theorem nthK_succ (v : Value) (l : List Value) (n : Nat) : nthK (v :: l) (n + 1) K = nthK l n K := of_eq_true (eq_self _)
theorem nthK_nil (n : Nat) : nthK [] n K = False := by simp [nthK]
theorem guardP_bool (b w : Bool) (A B : Prop) : guardP (some (.bool b)) w A B = if b = w then A else B := of_eq_true (eq_self _)
theorem guardP_undef (w : Bool) (A B : Prop) : guardP (some undef) w A B = B := of_eq_true (eq_self _)
theorem condP_bool (b : Bool) (A B : Prop) : condP (some (.bool b)) A B = if b = true then A else B := of_eq_true (eq_self _)
theorem lget_zero (v : Value) (l : List Value) : lget (v :: l) 0 = v := of_eq_true (eq_self _)
theorem lget_succ (v : Value) (l : List Value) (n : Nat) : lget (v :: l) (n + 1) = lget l n := of_eq_true (eq_self _)

theorem pk_move (v : Value) : popK .move [v] K = K v := of_eq_true (eq_self _)
theorem pk_pick (c : Bool) (a b : Value) : popK .pick [.bool c, a, b] K = K (bif c then a else b) := of_eq_true (eq_self _)
theorem pk_pickT (c : Bool) (a b : Value) (h : c = true) : popK .pick [.bool c, a, b] K = K a := by rw [h]; rfl
theorem pk_pickF (c : Bool) (a b : Value) (h : c = false) : popK .pick [.bool c, a, b] K = K b := by rw [h]; rfl
theorem pk_not (b : Bool) : popK (.un .not) [.bool b] K = K (.bool !b) := of_eq_true (eq_self _)
theorem pk_neg (k : IntKind) (n : Int) : popK (.un .neg) [.int k n] K = K (.int k (wrapF k (0 - n))) := of_eq_true (eq_self _)
theorem bytes_ext {a b : ByteArray} (h : a.data.toList = b.data.toList) : a = b := by
  cases a with | mk a => cases b with | mk b => cases a with | mk a => cases b with | mk b => simp at h; subst h; rfl
theorem bytes_beq (a b : ByteArray) : (a.data.toList == b.data.toList) = decide (a = b) := by
  rw [Bool.eq_iff_iff]
  simp only [beq_iff_eq, decide_eq_true_eq]
  exact ⟨bytes_ext, fun h => by rw [h]⟩
theorem pk_eqS (a b : ByteArray) : popK (.bin .eql) [.string a, .string b] K = K (.bool (decide (a = b))) := by
  show K (.bool (a.data.toList == b.data.toList)) = _; rw [bytes_beq]
theorem pk_neqS (a b : ByteArray) : popK (.bin .neq) [.string a, .string b] K = K (.bool !(decide (a = b))) := by
  show K (.bool !(a.data.toList == b.data.toList)) = _; rw [bytes_beq]
theorem pk_addS (a b : ByteArray) : popK (.bin .add) [.string a, .string b] K = (a.size + b.size ≤ 9223372036854775807 ∧ K (.string (a ++ b))) := by
  simp only [popK, pop, binV, binStr]
  by_cases h : ((a.size + b.size : Nat) : Int) > 9223372036854775807
  · rw [if_pos h]; simp only [eq_iff_iff, false_iff]; intro hh; omega
  · rw [if_neg h]; simp only [eq_iff_iff]; exact ⟨fun hh => ⟨by omega, hh⟩, fun hh => hh.2⟩
theorem pk_eqI (k : IntKind) (a b : Int) : popK (.bin .eql) [.int k a, .int k b] K = K (.bool (decide (a = b))) := by
  simp only [popK, pop, binV, binInt, if_true]; rfl
theorem pk_neqI (k : IntKind) (a b : Int) : popK (.bin .neq) [.int k a, .int k b] K = K (.bool !(decide (a = b))) := by
  simp only [popK, pop, binV, binInt, if_true]; rfl
theorem pk_lssI (k : IntKind) (a b : Int) : popK (.bin .lss) [.int k a, .int k b] K = K (.bool (decide (a < b))) := by
  simp only [popK, pop, binV, binInt, if_true]
theorem pk_leqI (k : IntKind) (a b : Int) : popK (.bin .leq) [.int k a, .int k b] K = K (.bool (decide (a ≤ b))) := by
  simp only [popK, pop, binV, binInt, if_true]
theorem pk_gtrI (k : IntKind) (a b : Int) : popK (.bin .gtr) [.int k a, .int k b] K = K (.bool (decide (b < a))) := by
  simp only [popK, pop, binV, binInt, if_true, gt_iff_lt]
theorem pk_geqI (k : IntKind) (a b : Int) : popK (.bin .geq) [.int k a, .int k b] K = K (.bool (decide (b ≤ a))) := by
  simp only [popK, pop, binV, binInt, if_true, ge_iff_le]
theorem pk_addI (k : IntKind) (a b : Int) : popK (.bin .add) [.int k a, .int k b] K = K (.int k (wrapF k (a + b))) := by
  simp only [popK, pop, binV, binInt, if_true]
theorem pk_subI (k : IntKind) (a b : Int) : popK (.bin .sub) [.int k a, .int k b] K = K (.int k (wrapF k (a - b))) := by
  simp only [popK, pop, binV, binInt, if_true]
theorem pk_mulI (k : IntKind) (a b : Int) : popK (.bin .mul) [.int k a, .int k b] K = K (.int k (wrapF k (a * b))) := by
  simp only [popK, pop, binV, binInt, if_true]
theorem wrap64 {n : Int} (h1 : -9223372036854775808 ≤ n) (h2 : n ≤ 9223372036854775807) : wrapF .i64 n = n := by
  simp only [wrapF]; rw [if_pos ⟨h1, h2⟩]
theorem pk_binB (neg a b : Bool) : popK (.binB neg) [.bool a, .bool b] K = K (.bool (xor neg (a == b))) := of_eq_true (eq_self _)
theorem pk_nilPtr (neg : Bool) (a : Option Addr) : popK (.nilEq .ptr neg) [.pointer a, .pointer none] K = K (.bool (xor neg a.isNone)) := by
  cases a <;> rfl
theorem pk_nilMap (neg : Bool) (a : Option Nat) : popK (.nilEq .map neg) [.map a, .map none] K = K (.bool (xor neg a.isNone)) := by
  cases a <;> rfl
theorem pk_nilSlice (neg : Bool) (a : Option Addr) (n c : Nat) : popK (.nilEq .slice neg) [.slice a n c, .slice none 0 0] K = K (.bool (xor neg a.isNone)) := by
  cases a <;> rfl
theorem pk_nilIfaceN (neg : Bool) : popK (.nilEq .iface neg) [.nilIface, .nilIface] K = K (.bool (xor neg true)) := of_eq_true (eq_self _)
theorem pk_nilIface (neg : Bool) (t : TypeId) (v : Value) : popK (.nilEq .iface neg) [.iface t v, .nilIface] K = K (.bool (xor neg false)) := of_eq_true (eq_self _)
theorem pk_build0 (z : List Value) : popK (.build z []) [] K = K (.agg z.toArray) := of_eq_true (eq_self _)
theorem pk_ext0 (a b : Value) : popK (.extract 0) [.tuple #[a, b]] K = K a := of_eq_true (eq_self _)
theorem pk_ext1 (a b : Value) : popK (.extract 1) [.tuple #[a, b]] K = K b := of_eq_true (eq_self _)
theorem pk_ext30 (a b c : Value) : popK (.extract 0) [.tuple #[a, b, c]] K = K a := of_eq_true (eq_self _)
theorem pk_ext31 (a b c : Value) : popK (.extract 1) [.tuple #[a, b, c]] K = K b := of_eq_true (eq_self _)
theorem pk_ext32 (a b c : Value) : popK (.extract 2) [.tuple #[a, b, c]] K = K c := of_eq_true (eq_self _)
theorem pk_ext1_ (a : Value) : popK (.extract 0) [.tuple #[a]] K = K a := of_eq_true (eq_self _)
theorem pk_lenStr (b : ByteArray) : popK .lenStr [.string b] K = K (.int .i64 b.size) := of_eq_true (eq_self _)
theorem pk_lenSl (a : Option Addr) (n c : Nat) : popK .lenSl [.slice a n c] K = K (.int .i64 n) := of_eq_true (eq_self _)
theorem pk_fieldAddr (k b o : Nat) : popK (.fieldAddr k) [.pointer (some ⟨b, o, none⟩)] K = K (.pointer (some ⟨b, o + k, none⟩)) := by
  show K (.pointer (some (addA ⟨b, o, none⟩ k))) = _; rw [addA_rel]
theorem pk_nilCheck (a : Addr) : popK .nilCheck [.pointer (some a)] K = K (.pointer (some a)) := of_eq_true (eq_self _)
theorem pk_nilCheckI (t : TypeId) (v : Value) : popK .nilCheck [.iface t v] K = K (.iface t v) := of_eq_true (eq_self _)
theorem pk_indexAddr (esz b o len cap : Nat) (k : IntKind) (i : Int) : popK (.indexAddr esz) [.slice (some ⟨b, o, none⟩) len cap, .int k i] K = ((0 ≤ i ∧ i < (len : Int)) ∧ K (.pointer (some ⟨b, o + i.toNat * esz, none⟩))) := by
  simp only [popK, pop]
  by_cases h : 0 ≤ i ∧ i < (len : Int)
  · rw [if_pos h]; simp only [addA_rel, h, true_and, and_self]
  · rw [if_neg h]; simp only [h, false_and]
theorem pk_indexAddrArr (n esz b o : Nat) (k : IntKind) (i : Int) : popK (.indexAddrArr n esz) [.pointer (some ⟨b, o, none⟩), .int k i] K = ((0 ≤ i ∧ i < (n : Int)) ∧ K (.pointer (some ⟨b, o + i.toNat * esz, none⟩))) := by
  simp only [popK, pop]
  by_cases h : 0 ≤ i ∧ i < (n : Int)
  · rw [if_pos h]; simp only [addA_rel, h, true_and, and_self]
  · rw [if_neg h]; simp only [h, false_and]
theorem pk_mkIface (t : TypeId) (v : Value) : popK (.mkIface t) [v] K = K (.iface t v) := of_eq_true (eq_self _)
theorem pk_assertT (t u : TypeId) (z v : Value) (ok : Bool) : popK (.assertT t z ok) [.iface u v] K = if u = t then K (bif ok then .tuple #[v, .bool true] else v) else (ok = true ∧ K (.tuple #[z, .bool false])) := by
  simp only [popK, pop]
  by_cases h : u = t
  · rw [if_pos h, if_pos h]
  · rw [if_neg h, if_neg h]; cases ok <;> simp
theorem pk_slLo (b : ByteArray) (k : IntKind) (a : Int) : popK (.slStr true false) [.string b, .int k a] K = ((0 ≤ a ∧ a ≤ (b.size : Int)) ∧ K (.string (b.extract a.toNat b.size))) := by
  simp only [popK, pop, bounds, bound]
  by_cases h : ((0 : Nat) : Int) ≤ a ∧ a ≤ (b.size : Int)
  · rw [if_pos h]; simp at h; simp [h]
  · rw [if_neg h]; simp at h; simp only [Option.map_none, eq_iff_iff, false_iff, not_and]; intro hh; omega
theorem pk_slHi (b : ByteArray) (k : IntKind) (a : Int) : popK (.slStr false true) [.string b, .int k a] K = ((0 ≤ a ∧ a ≤ (b.size : Int)) ∧ K (.string (b.extract 0 a.toNat))) := by
  simp only [popK, pop, bounds, bound]
  by_cases h : ((0 : Nat) : Int) ≤ a ∧ a ≤ (b.size : Int)
  · rw [if_pos h]; simp at h; simp [h]
  · rw [if_neg h]; simp at h; simp only [Option.map_none, eq_iff_iff, false_iff, not_and]; intro hh; omega

theorem rk_load1 (b o : Nat) : ropK .load1 [.pointer (some ⟨b, o, none⟩)] s K = getK (s.get b) fun ob => rowK ob fun cs _ _ => nthK cs o K := by
  simp only [ropK, rop]
  cases s.get b with
  | none => rfl
  | some ob => cases ob <;> rfl
theorem rk_same1 (v : Value) (b o : Nat) : ropK .same1 [v, .pointer (some ⟨b, o, none⟩)] s K = getK (s.get b) fun ob => rowK ob fun cs _ _ => nthK cs o fun u => cellEq u v = true ∧ K undef := by
  simp only [ropK, rop]
  cases s.get b with
  | none => rfl
  | some ob =>
    cases ob with
    | row cs g ro =>
      simp only [getK, rowK, nthK]
      cases cs[o]? with
      | none => rfl
      | some u =>
        simp only
        by_cases h : cellEq u v = true
        · rw [if_pos h]; simp only [h, true_and]
        · rw [if_neg h]; simp [h]
    | _ => rfl
theorem rk_lookup (kk : KeyK) (z : Value) (ok : Bool) (r : Nat) (k : Value) (hk : keyOk kk k = true) : ropK (.lookup kk z ok) [.map (some r), k] s K = getK (s.get r) fun ob => mapK ob fun es _ => lookK (findV kk k es 0) z ok K := by
  simp only [ropK, rop]
  cases s.get r with
  | none => rfl
  | some ob =>
    cases ob <;> try rfl
    simp only [hk, if_true, getK, mapK, lookK]
    rcases findV kk k _ 0 with _ | _ | ⟨i, v⟩ <;> rfl
theorem rk_lookupS (z : Value) (ok : Bool) (r : Nat) (k : ByteArray) : ropK (.lookup .str z ok) [.map (some r), .string k] s K = getK (s.get r) fun ob => mapK ob fun es _ => lookK (findV .str (.string k) es 0) z ok K := rk_lookup _ _ _ _ _ rfl
theorem rk_lookupI (z : Value) (ok : Bool) (r : Nat) (ik : IntKind) (k : Int) : ropK (.lookup .int z ok) [.map (some r), .int ik k] s K = getK (s.get r) fun ob => mapK ob fun es _ => lookK (findV .int (.int ik k) es 0) z ok K := rk_lookup _ _ _ _ _ rfl
theorem rk_lenMap (r : Nat) : ropK .lenMap [.map (some r)] s K = getK (s.get r) fun ob => mapK ob fun es _ => K (.int .i64 es.length) := by
  simp only [ropK, rop]
  cases s.get r with
  | none => rfl
  | some ob => cases ob <;> rfl
theorem wk_box (n : Nat) (v : Value) : wopK (.box n) [v] s W = ((cellsOf v).length = n ∧ W (.pointer (some ⟨s.next, 0, none⟩)) (s.new (.row (cellsOf v) 0 false))) := by
  simp only [wopK, wop, St.newPtr]
  by_cases h : (cellsOf v).length = n
  · rw [if_pos h]; simp [h]
  · rw [if_neg h]; simp [h]
theorem wk_new (cs : List Value) : wopK (.new cs) [] s W = W (.pointer (some ⟨s.next, 0, none⟩)) (s.new (.row cs 0 false)) := of_eq_true (eq_self _)
theorem wk_mkMap : wopK .mkMap [] s W = W (.map (some s.next)) (s.new (.map [] 0)) := of_eq_true (eq_self _)
theorem wk_store (n b o : Nat) (v : Value) : wopK (.store n) [.pointer (some ⟨b, o, none⟩), v] s W = ((cellsOf v).length = n ∧ getK (s.get b) fun ob => rowK ob fun cs g ro => (ro = false ∧ o + n ≤ cs.length ∧ (cellsOf v).all oneCell = true) ∧ W undef (s.put b (some (.row (lputs cs o (cellsOf v)) g false)))) := by
  simp only [wopK, wop]
  by_cases h : (cellsOf v).length = n
  · rw [if_pos h]
    simp only [h, true_and, St.storeAt]
    cases s.get b with
    | none => rfl
    | some ob =>
      cases ob with
      | row cs g ro =>
        cases ro with
        | true => simp [getK, rowK]
        | false =>
          simp only [getK, rowK, h, true_and]
          by_cases hc : o + n ≤ cs.length ∧ (cellsOf v).all oneCell = true
          · rw [if_pos hc]; simp only [hc, and_self, true_and]; rfl
          · rw [if_neg hc]; simp only [hc, false_and]; rfl
      | _ => simp [getK, rowK]
  · rw [if_neg h]; simp [h]
theorem wk_mapSet (kk : KeyK) (r : Nat) (k v : Value) (hk : keyOk kk k = true) : wopK (.mapSet kk) [.map (some r), k, v] s W = getK (s.get r) fun ob => mapK ob fun es c => setK (findV kk k es 0) k v es c fun es' c' => W undef (s.put r (some (.map es' c'))) := by
  simp only [wopK, wop]
  cases s.get r with
  | none => rfl
  | some ob =>
    cases ob <;> try rfl
    simp only [hk, if_true, getK, mapK, setK]
    rcases findV kk k _ 0 with _ | _ | ⟨i, v⟩ <;> rfl
theorem wk_mapSetS (r : Nat) (k : ByteArray) (v : Value) : wopK (.mapSet .str) [.map (some r), .string k, v] s W = getK (s.get r) fun ob => mapK ob fun es c => setK (findV .str (.string k) es 0) (.string k) v es c fun es' c' => W undef (s.put r (some (.map es' c'))) := wk_mapSet _ _ _ _ rfl
theorem wk_mapSetI (r : Nat) (ik : IntKind) (k : Int) (v : Value) : wopK (.mapSet .int) [.map (some r), .int ik k, v] s W = getK (s.get r) fun ob => mapK ob fun es c => setK (findV .int (.int ik k) es 0) (.int ik k) v es c fun es' c' => W undef (s.put r (some (.map es' c'))) := wk_mapSet _ _ _ _ rfl

theorem getK_put (s : St) (i j : Nat) (o : Option AObj) (K : AObj → Prop) : getK ((s.put i o).get j) K = if i = j then getK o K else getK (s.get j) K := by
  rw [St.get_put]
  by_cases h : i = j
  · rw [if_pos h, if_pos h]
  · rw [if_neg h, if_neg h]
theorem getK_new (s : St) (j : Nat) (o : AObj) (K : AObj → Prop) : getK ((s.new o).get j) K = if s.next = j then K o else getK (s.get j) K := by
  rw [St.get_new]
  by_cases h : s.next = j
  · rw [if_pos h, if_pos h]; rfl
  · rw [if_neg h, if_neg h]
theorem getK_of {s : St} {i : Nat} {o : AObj} (h : s.get i = some o) (K : AObj → Prop) : getK (s.get i) K = K o := by rw [h]; rfl
theorem lookK_hit {kk : KeyK} {k : Value} {es : List (Value × Value × Nat)} {i : Nat} {v : Value} (h : findV kk k es 0 = some (some (i, v))) (z : Value) (K : Value → Prop) : lookK (findV kk k es 0) z true K = K (.tuple #[v, .bool true]) := by rw [h]; rfl
theorem lookK_miss {kk : KeyK} {k : Value} {es : List (Value × Value × Nat)} (h : findV kk k es 0 = some none) (z : Value) (K : Value → Prop) : lookK (findV kk k es 0) z true K = K (.tuple #[z, .bool false]) := by rw [h]; rfl
theorem lookK_hit1 {kk : KeyK} {k : Value} {es : List (Value × Value × Nat)} {i : Nat} {v : Value} (h : findV kk k es 0 = some (some (i, v))) (z : Value) (K : Value → Prop) : lookK (findV kk k es 0) z false K = K v := by rw [h]; rfl
theorem lookK_miss1 {kk : KeyK} {k : Value} {es : List (Value × Value × Nat)} (h : findV kk k es 0 = some none) (z : Value) (K : Value → Prop) : lookK (findV kk k es 0) z false K = K z := by rw [h]; rfl
theorem setK_hit {kk : KeyK} {k : Value} {es : List (Value × Value × Nat)} {i : Nat} {u : Value} (h : findV kk k es 0 = some (some (i, u))) (k' v : Value) (c : Nat) (K : List (Value × Value × Nat) → Nat → Prop) : setK (findV kk k es 0) k' v es c K = K (es.modify i fun e => (k', v, e.2.2)) c := by rw [h]; rfl
theorem setK_miss {kk : KeyK} {k : Value} {es : List (Value × Value × Nat)} (h : findV kk k es 0 = some none) (k' v : Value) (c : Nat) (K : List (Value × Value × Nat) → Nat → Prop) : setK (findV kk k es 0) k' v es c K = K (es ++ [(k', v, c)]) (c + 1) := by rw [h]; rfl
theorem lputs_0 (v a : Value) (l : List Value) : lputs (a :: l) 0 [v] = v :: l := rfl
theorem lputs_1 (v a b : Value) (l : List Value) : lputs (a :: b :: l) 1 [v] = a :: v :: l := rfl
theorem lputs_2 (v a b c : Value) (l : List Value) : lputs (a :: b :: c :: l) 2 [v] = a :: b :: v :: l := rfl
theorem lputs_3 (v a b c d : Value) (l : List Value) : lputs (a :: b :: c :: d :: l) 3 [v] = a :: b :: c :: v :: l := rfl
theorem lputs_4 (v a b c d e : Value) (l : List Value) : lputs (a :: b :: c :: d :: e :: l) 4 [v] = a :: b :: c :: d :: v :: l := rfl
end
end Go.Am
end
section
set_option linter.unusedSimpArgs false
set_option linter.unusedVariables false
set_option maxRecDepth 10000
namespace Go.Am
open Go.RowKit (Below)

section
variable {P : Program} {B0 : Nat} {W0 : World} {μ : Nat → Spot} {s : St} {w w' : World}

theorem Rel.later (h : Rel B0 W0 μ s w) (hb : Below w.heap.size w w') : Rel B0 W0 μ s w' where
  low := h.low
  below := h.below.trans (hb.mono h.size)
  known := fun i o hi => by
    obtain ⟨h1, h2, h3⟩ := h.known i o hi
    exact ⟨h1, Nat.lt_of_lt_of_le h2 hb.size, h3.mono (Agree.refl _ _) h1 (hb.block _ h2)⟩
  apart := h.apart

theorem Rel.start (s : St) (h : ∀ i o, s.get i = some o → i < s.next ∧ (μ i).block < w.heap.size ∧ IdOk w.heap.size μ s.next w i o) (hro : ∀ i o, s.get i = some o → o.owned = false) : Rel w.heap.size w μ s w where
  low := Nat.le_refl _
  below := Below.refl _ _
  known := h
  apart := fun i j oi oj _ hi _ ho _ => by rw [hro i oi hi] at ho; cases ho

/-- a call that is known to give a plain value, and to leave the blocks that there were -/
theorem callOk_plain {f : FuncId} {vs : List Value} {v : Value} (hv : ∀ (μ : Nat → Spot) (n : Nat), VR μ n v v)
    (h : ∀ (B0 : Nat) (W0 : World) (μ : Nat → Spot) (w : World) (args : List Value), Rel B0 W0 μ s w → Glob P μ s.next → VRs μ s.next vs args → Calls P f args.toArray w fun e w' => e = .returned v ∧ Below w.heap.size w w')
    {Q : Value × St → Prop} (hq : Q (v, s)) : CallOk P f vs s Q := by
  intro B0 W0 μ w args hr hg ha
  refine (h B0 W0 μ w args hr hg ha).mono fun e w' ⟨he, hb⟩ => ?_
  exact ⟨v, s, v, hq, he, μ, Agree.refl _ _, hr.later hb, hv μ s.next⟩

theorem VRs.str1 {n : Nat} {a : ByteArray} {l : List Value} (h : VRs μ n [.string a] l) : l = [.string a] := by
  cases h with | cons _ _ _ _ h1 h2 => cases h1; cases h2; rfl
theorem VRs.str2 {n : Nat} {a b : ByteArray} {l : List Value} (h : VRs μ n [.string a, .string b] l) : l = [.string a, .string b] := by
  cases h with | cons _ _ _ _ h1 h2 => cases h1; rw [h2.str1]

theorem Out.all_and {α : Type} {p q : α → Prop} : ∀ {o : Out α}, o.all p → o.all q → ∃ a, p a ∧ q a
  | .ret a, h, k => ⟨a, h, k⟩
  | .fail, h, _ => h.elim
  | .ask _ _, h, k => Out.all_and (h.2 0 h.1) (k.2 0 h.1)

theorem callK_iff {F : CallF} {f : FuncId} {args : List Value} {s s' : St} {v : Value} (h : ∀ K : Value → St → Prop, K v s' → callK F f args s K) (K : Value → St → Prop) : callK F f args s K = K v s' := by
  refine propext ⟨fun hk => ?_, h K⟩
  obtain ⟨a, h1, h2, h3⟩ := Out.all_and hk (h (fun a b => a = v ∧ b = s') ⟨rfl, rfl⟩)
  rw [h2, h3] at h1
  exact h1

theorem callO_none {T : Tab} {O : CallF} {fns : FuncId → Option AFn} {m : Nat} {f : FuncId} (h : fns f = none) (n : Nat) (args : List Value) (s : St) (K : Value → St → Prop) : callK (callO T O fns m n) f args s K = callK O f args s K := by
  unfold callK
  cases n with
  | zero => rfl
  | succ n => simp only [callO, h]

/-- what a call comes to, taken out of the second machine -/
theorem calls_of_run {F : CallF} (hF : FSound P F) {f : FuncId} {vs : List Value} {Q : Value × St → Prop} (h : (F f vs s).all Q) {args : List Value} (hr : Rel B0 W0 μ s w) (hg : Glob P μ s.next) (ha : VRs μ s.next vs args) :
    Calls P f args.toArray w fun e w' => ∃ v s' v', Q (v, s') ∧ e = .returned v' ∧ After B0 W0 μ s v s' v' w' := (hF f vs s Q h).2 B0 W0 μ w args hr hg ha

/-- every end is 'true' -/
def okTrue : Out (Value × St) → Bool
  | .ret (.bool true, _) => true
  | .ret _ => false
  | .fail => false
  | .ask n k => Nat.blt 0 n && (List.range n).all fun i => okTrue (k i)

theorem okTrue_all : ∀ {o : Out (Value × St)}, okTrue o = true → o.all fun r => r.1 = .bool true
  | .ret (v, s), h => by
    cases v with
    | bool b => cases b with
      | true => rfl
      | false => cases h
    | _ => cases h
  | .fail, h => by cases h
  | .ask n k, h => by
    simp only [okTrue, Bool.and_eq_true] at h
    refine ⟨Nat.le_of_ble_eq_true h.1, fun i hi => okTrue_all ?_⟩
    exact List.all_eq_true.1 h.2 i (List.mem_range.2 hi)

/-- the begin of a closed run: nothing is known but the variable 0, which holds some int -/
def St.begin (m : Int) (n : Nat) : St := { heap := Tr.nil.set (bits 0) (some (.row [.int .i64 m] 0 true)), next := n }

theorem begin_get (m : Int) (n i : Nat) : (St.begin m n).get i = if 0 = i then some (.row [.int .i64 m] 0 true) else none := by
  have h : St.begin m n = St.put { heap := .nil, next := n } 0 (some (.row [.int .i64 m] 0 true)) := rfl
  rw [h, St.get_put]
  split
  · rfl
  · exact Tr.get_nil _

/-- a call without arguments that is run on its own -/
theorem calls_closed {F : CallF} (hF : FSound P F) {f : FuncId} {m : Int} (hG : 0 < P.globals.size) (hrun : okTrue (F f [] (St.begin m P.globals.size)) = true) (w : World) (hm : w.cell? ⟨0, 0, none⟩ = some (.int .i64 m)) (h0 : 0 < w.heap.size) :
    Calls P f #[] w fun e w' => e = .returned (.bool true) ∧ Below w.heap.size w w' := by
  have hr : Rel w.heap.size w (fun i => ⟨i, 0, 1, 0⟩) (St.begin m P.globals.size) w := by
    refine Rel.start _ (fun i o hi => ?_) (fun i o hi => ?_)
    · rw [begin_get] at hi
      split at hi
      · rename_i h
        subst h
        cases hi
        refine ⟨hG, h0, rfl, by simp, fun j v hj => ?_, fun _ => .inl h0, fun h => by cases h⟩
        cases j with
        | zero => simp at hj; subst hj; exact ⟨_, hm, .int _ _⟩
        | succ j => simp at hj
      · cases hi
    · rw [begin_get] at hi
      split at hi
      · cases hi; rfl
      · cases hi
  have hg : Glob P (fun i => ⟨i, 0, 1, 0⟩) (St.begin m P.globals.size).next := fun g hg => ⟨hg, rfl, rfl⟩
  refine (calls_of_run hF (okTrue_all hrun) hr hg (args := []) .nil).mono fun e w' h => ?_
  obtain ⟨v, s', v', h1, h2, μ', _, h3, h4⟩ := h
  simp only at h1
  subst h1
  cases h4
  exact ⟨h2, h3.below⟩
end
end Go.Am
end
section
set_option linter.unusedSimpArgs false
set_option linter.unusedVariables false
set_option maxRecDepth 10000
namespace Go.Am

section
variable (K : Value → Prop)

theorem ite_bool (p : Prop) [Decidable p] : K (.bool (decide p)) = if p then K (.bool true) else K (.bool false) := by
  by_cases h : p <;> simp [h]
theorem ite_boolN (p : Prop) [Decidable p] : K (.bool !(decide p)) = if p then K (.bool false) else K (.bool true) := by
  by_cases h : p <;> simp [h]

theorem pj_eqS (a b : ByteArray) : popK (.bin .eql) [.string a, .string b] K = if a = b then K (.bool true) else K (.bool false) := (pk_eqS a b).trans (ite_bool K _)
theorem pj_neqS (a b : ByteArray) : popK (.bin .neq) [.string a, .string b] K = if a = b then K (.bool false) else K (.bool true) := (pk_neqS a b).trans (ite_boolN K _)
theorem pj_eqI (k : IntKind) (a b : Int) : popK (.bin .eql) [.int k a, .int k b] K = if a = b then K (.bool true) else K (.bool false) := (pk_eqI k a b).trans (ite_bool K _)
theorem pj_neqI (k : IntKind) (a b : Int) : popK (.bin .neq) [.int k a, .int k b] K = if a = b then K (.bool false) else K (.bool true) := (pk_neqI k a b).trans (ite_boolN K _)
theorem pj_lssI (k : IntKind) (a b : Int) : popK (.bin .lss) [.int k a, .int k b] K = if a < b then K (.bool true) else K (.bool false) := (pk_lssI k a b).trans (ite_bool K _)
theorem pj_leqI (k : IntKind) (a b : Int) : popK (.bin .leq) [.int k a, .int k b] K = if a ≤ b then K (.bool true) else K (.bool false) := (pk_leqI k a b).trans (ite_bool K _)
theorem pj_gtrI (k : IntKind) (a b : Int) : popK (.bin .gtr) [.int k a, .int k b] K = if b < a then K (.bool true) else K (.bool false) := (pk_gtrI k a b).trans (ite_bool K _)
theorem pj_geqI (k : IntKind) (a b : Int) : popK (.bin .geq) [.int k a, .int k b] K = if b ≤ a then K (.bool true) else K (.bool false) := (pk_geqI k a b).trans (ite_bool K _)

theorem pk_field (off n : Nat) (cs : Array Value) : popK (.field false off n) [.agg cs] K = nthK cs.toList off K := by
  simp only [popK, pop, nthK]
  cases cs.toList[off]? <;> rfl
theorem pk_mkFunc (f : Fn) (n : Nat) (vs : List Value) : popK (.mkFunc f n) vs K = K (.func f (vs.take n).toArray (vs.drop n).toArray) := of_eq_true (eq_self _)
end

/-! ### simp looks at what a form stands on, never into what comes behind it (the first hypothesis is there so that simp takes the law even where nothing turns) -/
def cgT : Nat := 0
def cgU : Nat := 0
theorem cgT_eq : cgT = cgU := of_eq_true (eq_self 0)
@[congr] theorem nthK_cg {cs cs' : List Value} {o o' : Nat} {K : Value → Prop} {t0 : Nat} (h0 : cgT = t0) (h1 : cs = cs') (h2 : o = o') : nthK cs o K = nthK cs' o' K := by rw [h1, h2]
@[congr] theorem getK_cg {o o' : Option AObj} {K : AObj → Prop} {t0 : Nat} (h0 : cgT = t0) (h : o = o') : getK o K = getK o' K := by rw [h]
@[congr] theorem rowK_cg {o o' : AObj} {K : List Value → Nat → Bool → Prop} {t0 : Nat} (h0 : cgT = t0) (h : o = o') : rowK o K = rowK o' K := by rw [h]
@[congr] theorem mapK_cg {o o' : AObj} {K : List (Value × Value × Nat) → Nat → Prop} {t0 : Nat} (h0 : cgT = t0) (h : o = o') : mapK o K = mapK o' K := by rw [h]
@[congr] theorem lookK_cg {r r' : Option (Option (Nat × Value))} {z : Value} {b : Bool} {K : Value → Prop} {t0 : Nat} (h0 : cgT = t0) (h : r = r') : lookK r z b K = lookK r' z b K := by rw [h]
@[congr] theorem setK_cg {r r' : Option (Option (Nat × Value))} {k v : Value} {es : List (Value × Value × Nat)} {c : Nat} {K : List (Value × Value × Nat) → Nat → Prop} {t0 : Nat} (h0 : cgT = t0) (h : r = r') : setK r k v es c K = setK r' k v es c K := by rw [h]
@[congr] theorem getE_cg {e : Env} {n n' : Nat} {K : Value → Prop} {t0 : Nat} (h0 : cgT = t0) (h : n = n') : getE e n K = getE e n' K := by rw [h]
@[congr] theorem getU_cg {e : Env} {n n' : Nat} {K : Value → Prop} {t0 : Nat} (h0 : cgT = t0) (h : n = n') : getU e n K = getU e n' K := by rw [h]
@[congr] theorem argE_cg {e : Env} {a a' : Arg} {K : Value → Prop} {t0 : Nat} (h0 : cgT = t0) (h : a = a') : argE e a K = argE e a' K := by rw [h]
@[congr] theorem argsE_cg {e : Env} {as as' : List Arg} {K : List Value → Prop} {t0 : Nat} (h0 : cgT = t0) (h : as = as') : argsE e as K = argsE e as' K := by rw [h]
@[congr] theorem popK_cg {o : POp} {vs vs' : List Value} {K : Value → Prop} {t0 : Nat} (h0 : cgT = t0) (h : vs = vs') : popK o vs K = popK o vs' K := by rw [h]
@[congr] theorem ropK_cg {o : ROp} {vs vs' : List Value} {s s' : St} {K : Value → Prop} {t0 : Nat} (h0 : cgT = t0) (h : vs = vs') (h2 : s = s') : ropK o vs s K = ropK o vs' s' K := by rw [h, h2]
@[congr] theorem wopK_cg {o : WOp} {vs vs' : List Value} {s s' : St} {K : Value → St → Prop} {t0 : Nat} (h0 : cgT = t0) (h : vs = vs') (h2 : s = s') : wopK o vs s K = wopK o vs' s' K := by rw [h, h2]
@[congr] theorem callK_cg {F : CallF} {f : FuncId} {vs vs' : List Value} {s s' : St} {K : Value → St → Prop} {t0 : Nat} (h0 : cgT = t0) (h : vs = vs') (h2 : s = s') : callK F f vs s K = callK F f vs' s' K := by rw [h, h2]
@[congr] theorem nextK_cg {b : Bool} {vs vs' : List Value} {s s' : St} {K : Value → St → Prop} {t0 : Nat} (h0 : cgT = t0) (h : vs = vs') (h2 : s = s') : nextK b vs s K = nextK b vs' s' K := by rw [h, h2]
@[congr] theorem opK_cg {T : Tab} {F : CallF} {o : AOp} {vs vs' : List Value} {s s' : St} {K : Value → St → Prop} {t0 : Nat} (h0 : cgT = t0) (h : vs = vs') (h2 : s = s') : opK T F o vs s K = opK T F o vs' s' K := by rw [h, h2]
@[congr] theorem opE_cg {T : Tab} {F : CallF} {o : AOper} {e : Env} {s s' : St} {K : Value → St → Prop} {t0 : Nat} (h0 : cgT = t0) (h : s = s') : opE T F o e s K = opE T F o e s' K := by rw [h]
@[congr] theorem condK_cg {v v' : Value} {A B : Prop} {t0 : Nat} (h0 : cgT = t0) (h : v = v') : condK v A B = condK v' A B := by rw [h]
@[congr] theorem grpJ_cg {v v' : Value} {w : Bool} {A B : Prop} {t0 : Nat} (h0 : cgT = t0) (h : v = v') : grpJ v w A B = grpJ v' w A B := by rw [h]
@[congr] theorem grpsE_cg {T : Tab} {F : CallF} {gs : List Grp} {e : Env} {s s' : St} {K : Env → St → Prop} {t0 : Nat} (h0 : cgT = t0) (h : s = s') : grpsE T F gs e s K = grpsE T F gs e s' K := by rw [h]
@[congr] theorem listE_cg {T : Tab} {F : CallF} {os : List AOper} {e : Env} {s s' : St} {K : Env → St → Prop} {t0 : Nat} (h0 : cgT = t0) (h : s = s') : listE T F os e s K = listE T F os e s' K := by rw [h]
@[congr] theorem sx_cg {T : Tab} {F : CallF} {m nt : Nat} {c : GC} {e : Env} {s s' : St} {N : Env → St → Prop} {E : Nat → Env → St → Prop} {R : Env → St → Prop} {t0 : Nat} (h0 : cgT = t0) (h : s = s') : sx T F m nt c e s N E R = sx T F m nt c e s' N E R := by rw [h]
@[congr] theorem Runs_cg {T : Tab} {F : CallF} {m nt : Nat} {c : AC} {e : Env} {s s' : St} {N : Env → St → Prop} {E : Nat → Env → St → Prop} {R : Env → St → Prop} {t0 : Nat} (h0 : cgT = t0) (h : s = s') : Runs T F m nt c e s N E R = Runs T F m nt c e s' N E R := by rw [h]
@[congr] theorem resP_cg {e : Env} {s s' : St} {rs : List (Nat × Nat)} {Q : Value → St → Prop} {t0 : Nat} (h0 : cgT = t0) (h : s = s') : resP e s rs Q = resP e s' rs Q := by rw [h]

theorem cast_zero : ((0 : Nat) : Int) = 0 := rfl
theorem cast_one : ((1 : Nat) : Int) = 1 := rfl

theorem iteI {c A B : Prop} [Decidable c] (h1 : c → A) (h2 : ¬ c → B) : if c then A else B := by
  by_cases h : c
  · rw [if_pos h]; exact h1 h
  · rw [if_neg h]; exact h2 h
theorem iteT {c A B : Prop} [Decidable c] (h : c) (h1 : A) : if c then A else B := by rw [if_pos h]; exact h1
theorem iteF {c A B : Prop} [Decidable c] (h : ¬ c) (h1 : B) : if c then A else B := by rw [if_neg h]; exact h1

section
variable {s : St} {W : Value → St → Prop}
theorem wk_boxA (n : Nat) (l : List Value) : wopK (.box n) [.agg l.toArray] s W = (l.length = n ∧ W (.pointer (some ⟨s.next, 0, none⟩)) (s.new (.row l 0 false))) := by
  rw [wk_box]
  rfl
theorem wk_strToBytes (b : ByteArray) : wopK .strToBytes [.string b] s W = W (.slice (some ⟨s.next, 0, none⟩) b.size b.size) (s.new (.row (b.data.toList.map fun c => .int .u8 c.toNat) 1 false)) := of_eq_true (eq_self _)
end
end Go.Am
end
section
set_option linter.unusedSimpArgs false
set_option linter.unusedVariables false
set_option maxRecDepth 10000
namespace Go.Am

/-! ### literals and what arithmetic settles -/
section
variable {K : Value → Prop} {A B : Prop}
theorem grpJ_tt : grpJ (.bool true) true A B = A := grpJ_yes rfl
theorem grpJ_ff : grpJ (.bool false) false A B = A := grpJ_yes rfl
theorem grpJ_tf : grpJ (.bool true) false A B = B := grpJ_no rfl
theorem grpJ_ft : grpJ (.bool false) true A B = B := grpJ_no rfl
theorem grpJ_un (w : Bool) : grpJ undef w A B = B := grpJ_no rfl
theorem condK_t : condK (.bool true) A B = A := condK_yes rfl
theorem condK_f : condK (.bool false) A B = B := condK_no rfl
theorem pt_pick (a b : Value) : popK .pick [.bool true, a, b] K = K a := pk_pickT _ _ _ rfl
theorem pf_pick (a b : Value) : popK .pick [.bool false, a, b] K = K b := pk_pickF _ _ _ rfl
theorem pt_not : popK (.un .not) [.bool true] K = K (.bool false) := pk_not _
theorem pf_not : popK (.un .not) [.bool false] K = K (.bool true) := pk_not _

theorem qt_eqI (k : IntKind) (a b : Int) (h : a = b) : popK (.bin .eql) [.int k a, .int k b] K = K (.bool true) := by rw [pj_eqI, if_pos h]
theorem qf_eqI (k : IntKind) (a b : Int) (h : a ≠ b) : popK (.bin .eql) [.int k a, .int k b] K = K (.bool false) := by rw [pj_eqI, if_neg h]
theorem qt_neqI (k : IntKind) (a b : Int) (h : a ≠ b) : popK (.bin .neq) [.int k a, .int k b] K = K (.bool true) := by rw [pj_neqI, if_neg h]
theorem qf_neqI (k : IntKind) (a b : Int) (h : a = b) : popK (.bin .neq) [.int k a, .int k b] K = K (.bool false) := by rw [pj_neqI, if_pos h]
theorem qt_lssI (k : IntKind) (a b : Int) (h : a < b) : popK (.bin .lss) [.int k a, .int k b] K = K (.bool true) := by rw [pj_lssI, if_pos h]
theorem qf_lssI (k : IntKind) (a b : Int) (h : ¬ a < b) : popK (.bin .lss) [.int k a, .int k b] K = K (.bool false) := by rw [pj_lssI, if_neg h]
theorem qt_leqI (k : IntKind) (a b : Int) (h : a ≤ b) : popK (.bin .leq) [.int k a, .int k b] K = K (.bool true) := by rw [pj_leqI, if_pos h]
theorem qf_leqI (k : IntKind) (a b : Int) (h : ¬ a ≤ b) : popK (.bin .leq) [.int k a, .int k b] K = K (.bool false) := by rw [pj_leqI, if_neg h]
theorem qt_gtrI (k : IntKind) (a b : Int) (h : b < a) : popK (.bin .gtr) [.int k a, .int k b] K = K (.bool true) := by rw [pj_gtrI, if_pos h]
theorem qf_gtrI (k : IntKind) (a b : Int) (h : ¬ b < a) : popK (.bin .gtr) [.int k a, .int k b] K = K (.bool false) := by rw [pj_gtrI, if_neg h]
theorem qt_geqI (k : IntKind) (a b : Int) (h : b ≤ a) : popK (.bin .geq) [.int k a, .int k b] K = K (.bool true) := by rw [pj_geqI, if_pos h]
theorem qf_geqI (k : IntKind) (a b : Int) (h : ¬ b ≤ a) : popK (.bin .geq) [.int k a, .int k b] K = K (.bool false) := by rw [pj_geqI, if_neg h]
theorem q_addI (a b : Int) (h1 : -9223372036854775808 ≤ a + b) (h2 : a + b ≤ 9223372036854775807) : popK (.bin .add) [.int .i64 a, .int .i64 b] K = K (.int .i64 (a + b)) := by rw [pk_addI, wrap64 h1 h2]
theorem q_subI (a b : Int) (h1 : -9223372036854775808 ≤ a - b) (h2 : a - b ≤ 9223372036854775807) : popK (.bin .sub) [.int .i64 a, .int .i64 b] K = K (.int .i64 (a - b)) := by rw [pk_subI, wrap64 h1 h2]
theorem q_rem (k : IntKind) (a b : Int) (h : b ≠ 0) : popK (.bin .rem) [.int k a, .int k b] K = K (.int k (a.tmod b)) := by
  simp [popK, pop, binV, binInt, h]
theorem q_min (k : IntKind) (a b : Int) : popK .min [.int k a, .int k b] K = K (.int k (if b < a then b else a)) := of_eq_true (eq_self _)
theorem q_max (k : IntKind) (a b : Int) : popK .max [.int k a, .int k b] K = K (.int k (if b > a then b else a)) := of_eq_true (eq_self _)
end

theorem get_put_same (s : St) (i : Nat) (o : Option AObj) : (s.put i o).get i = o := by rw [St.get_put, if_pos rfl]
theorem get_put_ne (s : St) (i j : Nat) (o : Option AObj) (h : i ≠ j) : (s.put i o).get j = s.get j := by rw [St.get_put, if_neg h]
theorem get_new_same (s : St) (o : AObj) : (s.new o).get s.next = some o := by rw [St.get_new, if_pos rfl]
theorem get_new_ne (s : St) (j : Nat) (o : AObj) (h : s.next ≠ j) : (s.new o).get j = s.get j := by rw [St.get_new, if_neg h]

/-! ### a value's cells -/
theorem cells_agg (l : List Value) : cellsOf (.agg l.toArray) = l := rfl
theorem cells_int (k : IntKind) (n : Int) : cellsOf (.int k n) = [.int k n] := rfl
theorem cells_str (s : ByteArray) : cellsOf (.string s) = [.string s] := rfl
theorem cells_bool (b : Bool) : cellsOf (.bool b) = [.bool b] := rfl
theorem cells_slice (a : Option Addr) (n c : Nat) : cellsOf (.slice a n c) = [.slice a n c] := rfl
theorem cells_ptr (a : Option Addr) : cellsOf (.pointer a) = [.pointer a] := rfl
theorem cells_map (a : Option Nat) : cellsOf (.map a) = [.map a] := rfl
theorem cells_iface (t : TypeId) (v : Value) : cellsOf (.iface t v) = [.iface t v] := rfl
theorem cells_nif : cellsOf .nilIface = [.nilIface] := rfl
theorem one_int (k : IntKind) (n : Int) : oneCell (.int k n) = true := rfl
theorem one_str (s : ByteArray) : oneCell (.string s) = true := rfl
theorem one_bool (b : Bool) : oneCell (.bool b) = true := rfl
theorem one_slice (a : Option Addr) (n c : Nat) : oneCell (.slice a n c) = true := rfl
theorem one_ptr (a : Option Addr) : oneCell (.pointer a) = true := rfl
theorem one_map (a : Option Nat) : oneCell (.map a) = true := rfl
theorem one_iface (t : TypeId) (v : Value) : oneCell (.iface t v) = true := rfl
theorem one_nif : oneCell .nilIface = true := rfl

theorem one_eqSlice (a : Option Addr) (n c : Nat) : cellEq (.slice a n c) (.slice a n c) = true := by simp [cellEq]
theorem one_eqStr (a : ByteArray) : cellEq (.string a) (.string a) = true := by simp [cellEq]
theorem one_eqInt (k : IntKind) (a : Int) : cellEq (.int k a) (.int k a) = true := by simp [cellEq]
theorem one_eqBool (a : Bool) : cellEq (.bool a) (.bool a) = true := by simp [cellEq]
theorem one_eqPtr (a : Option Addr) : cellEq (.pointer a) (.pointer a) = true := by simp [cellEq]
theorem one_eqMap (a : Option Nat) : cellEq (.map a) (.map a) = true := by simp [cellEq]

/-- a map behind a key's deletion -/
def delK (r : Option (Option (Nat × Value))) (es : List (Value × Value × Nat)) (c id : Nat) (s : St) (W : Value → St → Prop) : Prop :=
  match r with
  | some (some (i, _)) => W (.tuple #[]) (s.put id (some (.map (es.eraseIdx i) c)))
  | some none => W (.tuple #[]) s
  | none => False
theorem wk_del_ {s : St} {W : Value → St → Prop} (kk : KeyK) (r : Nat) (k : Value) (hk : keyOk kk k = true) : wopK (.delete kk) [.map (some r), k] s W = getK (s.get r) fun ob => mapK ob fun es c => delK (findV kk k es 0) es c r s W := by
  simp only [wopK, wop]
  cases s.get r with
  | none => rfl
  | some ob =>
    cases ob with
    | map es c =>
      simp only [getK, mapK, hk, if_true, delK]
      cases findV kk k es 0 with
      | none => rfl
      | some x => cases x <;> rfl
    | _ => simp [getK, mapK]
theorem wk_delS {s : St} {W : Value → St → Prop} (r : Nat) (k : ByteArray) : wopK (.delete .str) [.map (some r), .string k] s W = getK (s.get r) fun ob => mapK ob fun es c => delK (findV .str (.string k) es 0) es c r s W := wk_del_ _ _ _ rfl
theorem wk_delI {s : St} {W : Value → St → Prop} (r : Nat) (ik : IntKind) (k : Int) : wopK (.delete .int) [.map (some r), .int ik k] s W = getK (s.get r) fun ob => mapK ob fun es c => delK (findV .int (.int ik k) es 0) es c r s W := wk_del_ _ _ _ rfl
theorem delK_hit {kk : KeyK} {k : Value} {es : List (Value × Value × Nat)} {i : Nat} {v : Value} (h : findV kk k es 0 = some (some (i, v))) (c id : Nat) (s : St) (W : Value → St → Prop) : delK (findV kk k es 0) es c id s W = W (.tuple #[]) (s.put id (some (.map (es.eraseIdx i) c))) := by rw [h]; rfl
@[congr] theorem delK_cg {r r' : Option (Option (Nat × Value))} {es : List (Value × Value × Nat)} {c id : Nat} {s s' : St} {W : Value → St → Prop} {t0 : Nat} (h0 : cgT = t0) (h1 : r = r') (h2 : s = s') : delK r es c id s W = delK r' es c id s' W := by rw [h1, h2]

theorem lputs_5 (v a b c d e f : Value) (l : List Value) : lputs (a :: b :: c :: d :: e :: f :: l) 5 [v] = a :: b :: c :: d :: e :: v :: l := rfl
theorem lputs_6 (v a b c d e f g : Value) (l : List Value) : lputs (a :: b :: c :: d :: e :: f :: g :: l) 6 [v] = a :: b :: c :: d :: e :: f :: v :: l := rfl

theorem lputs_z (l vs : List Value) : lputs l 0 vs = vs ++ l.drop vs.length := by simp [lputs]
theorem lputs_s (a : Value) (l vs : List Value) (n : Nat) : lputs (a :: l) (n + 1) vs = a :: lputs l n vs := by
  simp [lputs, Nat.add_right_comm]

/-- an aggregate out of its parts -/
def fillK (cells : List Value) (ps : List (Nat × Nat)) (vs : List Value) (K : Value → Prop) : Prop :=
  match fillL cells ps vs with
  | some cs => K (.agg cs.toArray)
  | none => False
theorem pk_build (z : List Value) (ps : List (Nat × Nat)) (vs : List Value) (K : Value → Prop) : popK (.build z ps) vs K = fillK z ps vs K := by
  simp only [popK, pop, fillK]
  cases fillL z ps vs <;> rfl
theorem fillK_nil (z : List Value) (K : Value → Prop) : fillK z [] [] K = K (.agg z.toArray) := of_eq_true (eq_self _)
theorem fillK_cons (z : List Value) (o n : Nat) (ps : List (Nat × Nat)) (v : Value) (vs : List Value) (K : Value → Prop) : fillK z ((o, n) :: ps) (v :: vs) K = (((cellsOf v).length = n ∧ o + n ≤ z.length) ∧ fillK (lputs z o (cellsOf v)) ps vs K) := by
  unfold fillK
  simp only [fillL]
  by_cases h : (cellsOf v).length = n ∧ o + n ≤ z.length
  · rw [if_pos h]; simp only [h, and_self, true_and]
  · rw [if_neg h]; simp only [h, false_and]
@[congr] theorem fillK_cg {z z' : List Value} {ps : List (Nat × Nat)} {vs : List Value} {K : Value → Prop} {t0 : Nat} (h0 : cgT = t0) (h1 : z = z') : fillK z ps vs K = fillK z' ps vs K := by rw [h1]

/-! ### a map gone through -/
theorem wk_range {s : St} {W : Value → St → Prop} (r : Nat) : wopK (.range false) [.map (some r)] s W = getK (s.get r) fun ob => mapK ob fun es c => W (.pointer (some ⟨s.next, 0, none⟩)) (s.new (.mapIter (some r) c [] c)) := by
  simp only [wopK, wop]
  cases s.get r with
  | none => rfl
  | some ob => cases ob <;> rfl

def unseen (seen : List Nat) (es : List (Value × Value × Nat)) : List (Value × Value × Nat) := es.filter fun e => !seen.contains e.2.2

theorem next_end {s : St} {i m c : Nat} {seen : List Nat} {es : List (Value × Value × Nat)} (hi : s.get i = some (.mapIter (some m) c seen c)) (hm : s.get m = some (.map es c)) (h : unseen seen es = []) {W : Value → St → Prop} (hW : W (.tuple #[.bool false]) s) :
    nextK false [.pointer (some ⟨i, 0, none⟩)] s W := by
  unfold unseen at h
  simp only [nextK, nextV, hi, hm, ne_eq, not_true_eq_false, Bool.false_eq_true, or_self, if_false, h]
  exact hW

theorem next_step {s : St} {i m c : Nat} {seen : List Nat} {es : List (Value × Value × Nat)} (hi : s.get i = some (.mapIter (some m) c seen c)) (hm : s.get m = some (.map es c)) (h : unseen seen es ≠ []) {W : Value → St → Prop}
    (hW : ∀ e, e ∈ unseen seen es → W (.tuple #[.bool true, e.1, e.2.1]) (s.put i (some (.mapIter (some m) c (seen ++ [e.2.2]) c)))) :
    nextK false [.pointer (some ⟨i, 0, none⟩)] s W := by
  unfold unseen at h hW
  simp only [nextK, nextV, hi, hm, ne_eq, not_true_eq_false, Bool.false_eq_true, or_self, if_false]
  generalize hl : es.filter (fun e => !seen.contains e.2.2) = l at h hW
  cases l with
  | nil => exact absurd rfl h
  | cons x l =>
    refine ⟨by simp, fun k hk => ?_⟩
    have : (x :: l)[k]? = some ((x :: l)[k]'hk) := List.getElem?_eq_getElem hk
    simp only [this]
    exact hW _ (List.getElem_mem hk)

theorem find_stamp : ∀ {es : List (Value × Value × Nat)} {e : Value × Value × Nat} (_ : (es.map (·.2.2)).Nodup) (_ : e ∈ es), es.find? (fun x => x.2.2 == e.2.2) = some e
  | [], _, _, he => by cases he
  | x :: es, e, hn, he => by
    simp only [List.map_cons, List.nodup_cons] at hn
    rcases List.mem_cons.1 he with rfl | he
    · simp
    · have : x.2.2 ≠ e.2.2 := fun h => hn.1 (h ▸ List.mem_map_of_mem he)
      rw [List.find?_cons_of_neg (by simpa using this)]
      exact find_stamp hn.2 he

theorem entry_at {s : St} {i m c : Nat} {seen : List Nat} {es : List (Value × Value × Nat)} {e : Value × Value × Nat} (hi : s.get i = some (.mapIter (some m) c (seen ++ [e.2.2]) c)) (hm : s.get m = some (.map es c)) (hn : (es.map (·.2.2)).Nodup) (he : e ∈ es) (K : Value → Prop) :
    ropK .entry [.pointer (some ⟨i, 0, none⟩)] s K = K (.tuple #[e.1, e.2.1]) := by
  have hf := find_stamp hn he
  simp only [ropK, rop, hi, hm, and_self, if_true, List.getLast?_append, List.getLast?_singleton, Option.or_some, Option.some_or, hf, Option.map_some]

theorem filter_less {α : Type} {p q : α → Bool} : ∀ {l : List α} {x : α}, (∀ y, q y = true → p y = true) → x ∈ l → p x = true → q x = false → (l.filter q).length < (l.filter p).length
  | [], _, _, h, _, _ => by cases h
  | y :: l, x, hpq, hx, h1, h2 => by
    have hle : (l.filter q).length ≤ (l.filter p).length := by
      clear hx
      induction l with
      | nil => simp
      | cons z l ih =>
        simp only [List.filter_cons]
        cases hq : q z with
        | true => rw [hpq z hq]; simpa using ih
        | false => cases p z <;> simp <;> omega
    rcases List.mem_cons.1 hx with rfl | hx
    · simp only [List.filter_cons, h1, h2, if_true, Bool.false_eq_true, if_false, List.length_cons]
      omega
    · have := filter_less hpq hx h1 h2
      simp only [List.filter_cons]
      cases hq : q y with
      | true => rw [hpq y hq]; simpa using this
      | false => cases p y <;> simp <;> omega

theorem unseen_less {seen : List Nat} {es : List (Value × Value × Nat)} {e : Value × Value × Nat} (he : e ∈ unseen seen es) : (unseen (seen ++ [e.2.2]) es).length < (unseen seen es).length := by
  unfold unseen at *
  obtain ⟨h1, h2⟩ := List.mem_filter.1 he
  refine filter_less (x := e) (fun y hy => ?_) h1 h2 (by simp)
  simp only [Bool.not_eq_true', List.contains_eq_mem, List.mem_append, List.mem_singleton, not_or, decide_eq_false_iff_not] at hy ⊢
  exact hy.1

/-- how much of a map is still to come -/
def left (es : List (Value × Value × Nat)) (i : Nat) (s : St) : Nat :=
  match s.get i with
  | some (.mapIter _ _ seen _) => (unseen seen es).length
  | _ => 0

theorem pk_convI (k j : IntKind) (n : Int) (K : Value → Prop) : popK (.convInt k) [.int j n] K = K (.int k (wrapF k n)) := of_eq_true (eq_self _)

/-- cells out of their parts -/
def fillC (cells : List Value) (ps : List (Nat × Nat)) (vs : List Value) (K : List Value → Prop) : Prop :=
  match fillL cells ps vs with
  | some cs => K cs
  | none => False
theorem fillC_nil (z : List Value) (K : List Value → Prop) : fillC z [] [] K = K z := of_eq_true (eq_self _)
theorem fillC_cons (z : List Value) (o n : Nat) (ps : List (Nat × Nat)) (v : Value) (vs : List Value) (K : List Value → Prop) : fillC z ((o, n) :: ps) (v :: vs) K = (((cellsOf v).length = n ∧ o + n ≤ z.length) ∧ fillC (lputs z o (cellsOf v)) ps vs K) := by
  unfold fillC
  simp only [fillL]
  by_cases h : (cellsOf v).length = n ∧ o + n ≤ z.length
  · rw [if_pos h]; simp only [h, and_self, true_and]
  · rw [if_neg h]; simp only [h, false_and]
@[congr] theorem fillC_cg {z z' : List Value} {ps : List (Nat × Nat)} {vs : List Value} {K : List Value → Prop} {t0 : Nat} (h0 : cgT = t0) (h1 : z = z') : fillC z ps vs K = fillC z' ps vs K := by rw [h1]
theorem wk_sliceLit (cells : List Value) (len : Nat) (p : Nat × Nat) (ps : List (Nat × Nat)) (vs : List Value) {s : St} {W : Value → St → Prop} : wopK (.sliceLit cells len (p :: ps)) vs s W = fillC cells (p :: ps) vs fun cs => W (.slice (some ⟨s.next, 0, none⟩) len len) (s.new (.row cs 0 false)) := by
  simp only [wopK, wop, fillC]
  cases fillL cells (p :: ps) vs <;> rfl

/-- a first element of two cells -/
theorem append2_nil {s : St} {b : Nat} {x y : Value} {g : Nat} {ro : Bool} (hb : s.get b = some (.row [x, y] g ro)) (hx : oneCell x = true) (hy : oneCell y = true) {W : Value → St → Prop} (hW : W (.slice (some ⟨s.next, 0, none⟩) 1 1) (s.new (.row [x, y] 2 false))) :
    wopK (.append 2 40) [.slice none 0 0, .slice (some ⟨b, 0, none⟩) 1 1] s W := by
  have h1 : s.srcCells 2 (.slice (some ⟨b, 0, none⟩) 1 1) = some [x, y] := by
    simp only [St.srcCells, St.cells, hb]
    rfl
  have h2 : [x, y].all oneCell = true := by simp [hx, hy]
  simp only [wopK, wop, appendV, srcLen, h1, h2]
  exact hW

/-! ### bytes -/
def u8v (b : UInt8) : Value := .int .u8 b.toNat

theorem u8s_map (l : List UInt8) : u8s (l.map u8v) = some l := by
  induction l with
  | nil => rfl
  | cons b l ih => simp [u8v, u8s] at *; simp [ih]

theorem all_u8 (l : List UInt8) : (l.map u8v).all oneCell = true := by
  simp [List.all_eq_true, u8v, oneCell]

/-- a slice of bytes: what it shows -/
def Bys (st : St) (v : Value) (l : List UInt8) : Prop :=
  (v = .slice none 0 0 ∧ l = []) ∨
  (∃ b o cap cs g ro, v = .slice (some ⟨b, o, none⟩) l.length cap ∧ l.length ≤ cap ∧ st.get b = some (.row cs g ro) ∧ (g = 0 ∨ g = 1) ∧ o + l.length ≤ cs.length ∧ (cs.drop o).take l.length = l.map u8v) ∨
  ∃ a : Addr, v = .slice (some a) 0 0 ∧ l = []

/-- a slice whose elements take a cell each: what it shows -/
def Cel (st : St) (v : Value) (cs : List Value) : Prop :=
  (v = .slice none 0 0 ∧ cs = []) ∨
  (∃ b o cap all g ro, v = .slice (some ⟨b, o, none⟩) cs.length cap ∧ st.get b = some (.row all g ro) ∧ o + cs.length ≤ all.length ∧ (all.drop o).take cs.length = cs) ∨
  ∃ ad : Addr, v = .slice (some ad) 0 0 ∧ cs = []

/-- where a slice lies: 0: nowhere; else its row's number and one -/
def ow : Value → Nat
  | .slice (some a) _ _ => a.block + 1
  | _ => 0

/-- such a one that its holder may let grow -/
def Gro (st : St) (v : Value) (l : List UInt8) : Prop :=
  (v = .slice none 0 0 ∧ l = []) ∨
  (∃ b o cap cs, v = .slice (some ⟨b, o, none⟩) l.length cap ∧ l.length ≤ cap ∧ st.get b = some (.row cs 1 false) ∧ o + l.length ≤ cs.length ∧ (cs.drop o).take l.length = l.map u8v) ∨
  ∃ b o cs ro, v = .slice (some ⟨b, o, none⟩) 0 0 ∧ l = [] ∧ st.get b = some (.row cs 0 ro) ∧ o ≤ cs.length

section
variable {st st' : St} {v u : Value} {l m : List UInt8} {K : Value → Prop}

theorem Gro.bys (h : Gro st v l) : Bys st v l := by
  rcases h with h | ⟨b, o, cap, cs, h1, h2, h3, h4, h5⟩ | ⟨b, o, cs, ro, h1, h2, h3, h4⟩
  · exact .inl h
  · exact .inr (.inl ⟨b, o, cap, cs, 1, false, h1, h2, h3, .inr rfl, h4, h5⟩)
  · exact .inr (.inr ⟨_, h1, h2⟩)

theorem Gro.nil (st : St) : Gro st (.slice none 0 0) [] := .inl ⟨rfl, rfl⟩
theorem Bys.nil (st : St) : Bys st (.slice none 0 0) [] := .inl ⟨rfl, rfl⟩

theorem Gro.keep (h : Gro st v l) (hb : ∀ i, i + 1 = ow v → st'.get i = st.get i) : Gro st' v l := by
  rcases h with h | ⟨b, o, cap, cs, h1, h2, h3, h4, h5⟩ | ⟨b, o, cs, ro, h1, h2, h3, h4⟩
  · exact .inl h
  · subst h1; exact .inr (.inl ⟨b, o, cap, cs, rfl, h2, (hb b rfl).trans h3, h4, h5⟩)
  · subst h1; exact .inr (.inr ⟨b, o, cs, ro, rfl, h2, (hb b rfl).trans h3, h4⟩)

theorem Bys.keep (h : Bys st v l) (hb : ∀ i, i + 1 = ow v → st'.get i = st.get i) : Bys st' v l := by
  rcases h with h | ⟨b, o, cap, cs, g, ro, h1, h2, h3, h4, h5, h6⟩ | h
  · exact .inl h
  · subst h1; exact .inr (.inl ⟨b, o, cap, cs, g, ro, rfl, h2, (hb b rfl).trans h3, h4, h5, h6⟩)
  · exact .inr (.inr h)

theorem Bys.cap (h : Bys st v l) : ∃ a cap, v = .slice a l.length cap := by
  rcases h with ⟨h, h'⟩ | ⟨b, o, cap, cs, g, ro, h1, h2, h3, h4, h5, h6⟩ | ⟨ad, h, h'⟩
  · subst h h'; exact ⟨none, 0, rfl⟩
  · exact ⟨_, _, h1⟩
  · subst h h'; exact ⟨_, 0, rfl⟩

theorem Cel.keep {cs : List Value} (h : Cel st v cs) (hb : ∀ i, i + 1 = ow v → st'.get i = st.get i) : Cel st' v cs := by
  rcases h with h | ⟨b, o, cap, all, g, ro, h1, h3, h5, h6⟩ | h
  · exact .inl h
  · subst h1; exact .inr (.inl ⟨b, o, cap, all, g, ro, rfl, (hb b rfl).trans h3, h5, h6⟩)
  · exact .inr (.inr h)
theorem len_cel {cs : List Value} (h : Cel st v cs) (K : Value → Prop) : popK .lenSl [v] K = K (.int .i64 cs.length) := by
  rcases h with ⟨h, h'⟩ | ⟨b, o, cap, all, g, ro, h1, h3, h5, h6⟩ | ⟨ad, h, h'⟩
  · subst h h'; rfl
  · subst h1; rw [pk_lenSl]
  · subst h h'; rfl

theorem len_bys (h : Bys st v l) (K : Value → Prop) : popK .lenSl [v] K = K (.int .i64 l.length) := by
  obtain ⟨a, cap, rfl⟩ := h.cap
  rw [pk_lenSl]

def bptr (v : Value) (i : Int) : Value :=
  match v with
  | .slice (some a) _ _ => .pointer (some (addA a (i.toNat * 1)))
  | _ => undef

theorem idx_bys (h : Bys st v l) (k : IntKind) (i : Int) (K : Value → Prop) (h0 : 0 ≤ i) (h1 : i < (l.length : Int)) : popK (.indexAddr 1) [v, .int k i] K = K (bptr v i) := by
  rcases h with ⟨h, h'⟩ | ⟨b, o, cap, cs, g, ro, q1, q2, q3, q4, q5, q6⟩ | ⟨ad, h, h'⟩
  · subst h h'; simp at h1; omega
  rotate_left
  · subst h h'; simp at h1; omega
  · subst q1
    simp only [popK, pop, bptr]
    rw [if_pos ⟨h0, h1⟩]

theorem load_bys (h : Bys st v l) (i : Int) (K : Value → Prop) (h0 : 0 ≤ i) (h1 : i < (l.length : Int)) : ropK .load1 [bptr v i] st K = K (u8v (l.getD i.toNat 0)) := by
  rcases h with ⟨h, h'⟩ | ⟨b, o, cap, cs, g, ro, q1, q2, q3, q4, q5, q6⟩ | ⟨ad, h, h'⟩
  · subst h h'; simp at h1; omega
  rotate_left
  · subst h h'; simp at h1; omega
  · subst q1
    have hi : i.toNat < l.length := by omega
    have e : cs[o + i.toNat]? = some (u8v (l.getD i.toNat 0)) := by
      have := congrArg (fun x => x[i.toNat]?) q6
      simp only [List.getElem?_take_of_lt hi, List.getElem?_drop, List.getElem?_map] at this
      rw [this, List.getElem?_eq_getElem hi]
      simp [List.getD, hi]
    simp only [bptr, addA]
    have hb : ∀ (a : Addr), a.block = b → a.off = o + i.toNat → ropK .load1 [.pointer (some a)] st K = K (u8v (l.getD i.toNat 0)) := by
      intro a e1 e2
      simp only [ropK, rop, e1, e2, q3, e]
    split
    · rename_i hz
      refine hb _ rfl ?_
      have : i.toNat = 0 := by omega
      simp [this]
    · refine hb _ rfl ?_
      simp

theorem idx_cel {cs : List Value} (h : Cel st v cs) (k : IntKind) (i : Int) (K : Value → Prop) (h0 : 0 ≤ i) (h1 : i < (cs.length : Int)) : popK (.indexAddr 1) [v, .int k i] K = K (bptr v i) := by
  rcases h with ⟨h, h'⟩ | ⟨b, o, cap, all, g, ro, q1, q3, q5, q6⟩ | ⟨ad, h, h'⟩
  · subst h h'; simp at h1; omega
  rotate_left
  · subst h h'; simp at h1; omega
  · subst q1
    simp only [popK, pop, bptr]
    rw [if_pos ⟨h0, h1⟩]

theorem load_cel {cs : List Value} (h : Cel st v cs) (i : Int) (K : Value → Prop) (h0 : 0 ≤ i) (h1 : i < (cs.length : Int)) : ropK .load1 [bptr v i] st K = K (cs.getD i.toNat undef) := by
  rcases h with ⟨h, h'⟩ | ⟨b, o, cap, all, g, ro, q1, q3, q5, q6⟩ | ⟨ad, h, h'⟩
  · subst h h'; simp at h1; omega
  rotate_left
  · subst h h'; simp at h1; omega
  · subst q1
    have hi : i.toNat < cs.length := by omega
    have e : all[o + i.toNat]? = some (cs.getD i.toNat undef) := by
      have := congrArg (fun x => x[i.toNat]?) q6
      simp only [List.getElem?_take_of_lt hi, List.getElem?_drop] at this
      rw [this, List.getElem?_eq_getElem hi]
      simp [List.getD, hi]
    simp only [bptr, addA]
    have hb : ∀ (a : Addr), a.block = b → a.off = o + i.toNat → ropK .load1 [.pointer (some a)] st K = K (cs.getD i.toNat undef) := by
      intro a e1 e2
      simp only [ropK, rop, e1, e2, q3, e]
    split
    · rename_i hz
      refine hb _ rfl ?_
      have : i.toNat = 0 := by omega
      simp [this]
    · refine hb _ rfl ?_
      simp

def bhi (v : Value) (n : Nat) : Value :=
  match v with
  | .slice a _ cap => .slice a n cap
  | v => v

theorem slhi_bys (h : Bys st v l) (k : IntKind) (n : Int) (K : Value → Prop) (h0 : 0 ≤ n) (h1 : n ≤ (l.length : Int)) : ropK (.sl 1 false true) [v, .int k n] st K = K (bhi v n.toNat) := by
  rcases h with ⟨h, h'⟩ | ⟨b, o, cap, cs, g, ro, q1, q2, q3, q4, q5, q6⟩ | ⟨ad, h, h'⟩
  · subst h h'
    simp at h1
    have : n = 0 := by omega
    subst this
    rfl
  · subst q1
    have hb : bound 0 cap (.int k n) = some n.toNat := by simp only [bound]; rw [if_pos ⟨by simpa using h0, by omega⟩]
    simp only [ropK, rop, q3, bounds, hb, Option.map_some, bhi]
    by_cases hc : cap = 0
    · rw [if_pos hc]; rfl
    rw [if_neg hc, if_pos q4]
    simp only [Option.map_some, Nat.sub_zero, addA, Nat.zero_mul, if_true]
    split <;> rfl
  · subst h h'
    simp at h1
    have : n = 0 := by omega
    subst this
    rfl

theorem bhi_bys (h : Bys st v l) (n : Nat) (h1 : n ≤ l.length) : Bys st (bhi v n) (l.take n) := by
  rcases h with ⟨h, h'⟩ | ⟨b, o, cap, cs, g, ro, q1, q2, q3, q4, q5, q6⟩ | ⟨ad, h, h'⟩
  · subst h h'
    simp at h1
    subst h1
    exact .inl ⟨rfl, rfl⟩
  rotate_left
  · subst h h'
    simp at h1
    subst h1
    exact .inr (.inr ⟨_, rfl, rfl⟩)
  · subst q1
    refine .inr (.inl ⟨b, o, cap, cs, g, ro, ?_, ?_, q3, q4, ?_, ?_⟩)
    · simp only [bhi, List.length_take, Nat.min_eq_left h1]
    · simp only [List.length_take]; omega
    · simp only [List.length_take]; omega
    · have := congrArg (List.take n) q6
      rw [List.take_take, Nat.min_eq_left h1] at this
      rw [List.length_take, Nat.min_eq_left h1, this, List.map_take]
theorem ow_bhi (v : Value) (n : Nat) : ow (bhi v n) = ow v := by
  unfold bhi
  split
  · rename_i a _ _; cases a <;> rfl
  · rfl

def blo (v : Value) (n : Nat) : Value :=
  match v with
  | .slice (some a) len cap => .slice (some (if cap = n then a else addA a (n * 1))) (len - n) (cap - n)
  | v => v

theorem sllo_bys (h : Bys st v l) (k : IntKind) (n : Int) (K : Value → Prop) (h0 : 0 ≤ n) (h1 : n ≤ (l.length : Int)) : ropK (.sl 1 true false) [v, .int k n] st K = K (blo v n.toNat) := by
  rcases h with ⟨h, h'⟩ | ⟨b, o, cap, cs, g, ro, q1, q2, q3, q4, q5, q6⟩ | ⟨ad, h, h'⟩
  · subst h h'
    simp at h1
    have : n = 0 := by omega
    subst this
    rfl
  rotate_left
  · subst h h'
    simp at h1
    have : n = 0 := by omega
    subst this
    rfl
  · subst q1
    have hb : bound 0 l.length (.int k n) = some n.toNat := by simp only [bound]; rw [if_pos ⟨by simpa using h0, by omega⟩]
    simp only [ropK, rop, q3, bounds, hb, Option.map_some, blo]
    by_cases hc : cap = 0
    · have hn : n.toNat = 0 := by omega
      rw [if_pos hc, if_pos (by omega)]
    rw [if_neg hc, if_pos q4]

theorem ow_blo (v : Value) (n : Nat) : ow (blo v n) = ow v := by
  unfold blo
  split
  · rename_i a _ _
    simp only [ow]
    split
    · rfl
    · simp only [addA]; split <;> rfl
  · rfl

theorem blo_gro (h : Gro st v l) (n : Nat) (h1 : n ≤ l.length) : Gro st (blo v n) (l.drop n) := by
  rcases h with ⟨h, h'⟩ | ⟨b, o, cap, cs, q1, q2, q3, q5, q6⟩ | ⟨b, o, cs, ro, q1, q2, q3, q4⟩
  · subst h h'
    simp at h1
    subst h1
    exact .inl ⟨rfl, rfl⟩
  · subst q1
    have hd : ((cs.drop (o + n)).take (l.length - n)) = (l.drop n).map u8v := by
      have := congrArg (List.drop n) q6
      rw [List.drop_take, List.drop_drop] at this
      rw [this, List.map_drop]
    by_cases hc : cap = n
    · refine .inr (.inl ⟨b, o, cap - n, cs, ?_, ?_, q3, ?_, ?_⟩)
      · simp only [blo, hc, if_true, List.length_drop]
      · simp only [List.length_drop]; omega
      · simp only [List.length_drop]; omega
      · have : l.length = n := by omega
        have e : l.drop n = [] := by rw [← this]; exact List.drop_length
        rw [e]
        rfl
    · refine .inr (.inl ⟨b, o + n, cap - n, cs, ?_, ?_, q3, ?_, ?_⟩)
      · simp only [blo, hc, if_false, List.length_drop, Nat.mul_one, addA]
        split
        · rename_i hn; subst hn; rfl
        · rfl
      · simp only [List.length_drop]; omega
      · simp only [List.length_drop]; omega
      · simpa [List.length_drop] using hd
  · subst q1 q2
    simp at h1
    subst h1
    exact .inr (.inr ⟨b, o, cs, ro, rfl, rfl, q3, q4⟩)

theorem blo_bys (h : Bys st v l) (n : Nat) (h1 : n ≤ l.length) : Bys st (blo v n) (l.drop n) := by
  rcases h with ⟨h, h'⟩ | ⟨b, o, cap, cs, g, ro, q1, q2, q3, q4, q5, q6⟩ | ⟨ad, h, h'⟩
  · subst h h'
    simp at h1
    subst h1
    exact .inl ⟨rfl, rfl⟩
  rotate_left
  · subst h h'
    simp at h1
    subst h1
    exact .inr (.inr ⟨_, rfl, rfl⟩)
  · subst q1
    have hd : ((cs.drop (o + n)).take (l.length - n)) = (l.drop n).map u8v := by
      have := congrArg (List.drop n) q6
      rw [List.drop_take, List.drop_drop] at this
      rw [this, List.map_drop]
    by_cases hc : cap = n
    · refine .inr (.inl ⟨b, o, cap - n, cs, g, ro, ?_, ?_, q3, q4, ?_, ?_⟩)
      · simp only [blo, hc, if_true, List.length_drop]
      · simp only [List.length_drop]; omega
      · simp only [List.length_drop]; omega
      · have : l.length = n := by omega
        have e : l.drop n = [] := by rw [← this]; exact List.drop_length
        rw [e]
        rfl
    · refine .inr (.inl ⟨b, o + n, cap - n, cs, g, ro, ?_, ?_, q3, q4, ?_, ?_⟩)
      · simp only [blo, hc, if_false, List.length_drop, Nat.mul_one, addA]
        split
        · rename_i hn; subst hn; rfl
        · rfl
      · simp only [List.length_drop]; omega
      · simp only [List.length_drop]; omega
      · simpa [List.length_drop] using hd

theorem Bys.src (h : Bys st u m) : srcLen u = some m.length ∧ st.srcCells 1 u = some (m.map u8v) := by
  rcases h with ⟨h, h'⟩ | ⟨b, o, cap, cs, g, ro, q1, q2, q3, q4, q5, q6⟩ | ⟨ad, h, h'⟩
  · subst h h'; exact ⟨rfl, rfl⟩
  · subst q1
    refine ⟨rfl, ?_⟩
    simp only [St.srcCells, St.cells, q3, Nat.mul_one]
    by_cases h0 : m.length = 0
    · rw [if_pos h0, List.eq_nil_of_length_eq_zero h0]; rfl
    rw [if_neg h0, if_pos q5, q6]
  · subst h h'; exact ⟨rfl, rfl⟩

/-- what comes of an append: a slice that shows both, in its old row or in a new one; all else is as it was -/
theorem append_go (hd : Gro st v l) (hs : Bys st u m) (hsz : l.length + m.length ≤ 1099511627776) {W : Value → St → Prop}
    (h : ∀ v' st', Gro st' v' (l ++ m) → (ow v' = ow v ∨ (ow v' = st.next + 1 ∧ st.next + 1 ≤ st'.next)) → st.next ≤ st'.next → (∀ i, i + 1 ≠ ow v → i < st.next → st'.get i = st.get i) → W v' st') :
    wopK (.append 1 1) [v, u] st W := by
  obtain ⟨s1, s2⟩ := hs.src
  simp only [wopK, wop, appendV, s1, s2]
  by_cases hm : m = []
  · subst hm
    simp only [List.length_nil, if_true]
    obtain ⟨a, cap, rfl⟩ := hd.bys.cap
    simp only
    refine h _ st ?_ (.inl rfl) (Nat.le_refl _) (fun _ _ _ => rfl)
    simpa using hd
  · have hm0 : m.length ≠ 0 := fun e => hm (List.eq_nil_of_length_eq_zero e)
    simp only [hm0, if_false, all_u8, Nat.one_ne_zero, not_true_eq_false, or_self]
    have fin : ∀ (st0 : St), st0.next = st.next → (∀ i, i + 1 ≠ ow v → st0.get i = st.get i) → W (.slice (some ⟨st.next, 0, none⟩) (l.length + m.length) (l.length + m.length)) (st0.new (.row (l.map u8v ++ m.map u8v) 1 false)) := by
      intro st0 e1 e2
      refine h _ _ ?_ (.inr ⟨rfl, ?_⟩) ?_ (fun i hi hlt => ?_)
      · refine .inr (.inl ⟨st.next, 0, l.length + m.length, l.map u8v ++ m.map u8v, ?_, ?_, ?_, ?_, ?_⟩)
        · simp
        · simp
        · rw [← e1, St.get_new, if_pos rfl]
        · simp
        · rw [List.map_append, List.drop_zero, List.take_of_length_le (by simp)]
      · show st.next + 1 ≤ st0.next + 1; omega
      · show st.next ≤ st0.next + 1; omega
      · rw [St.get_new, if_neg (by omega), e2 i hi]
    rcases hd with ⟨q, q'⟩ | ⟨b, o, cap, cs, q1, q2, q3, q5, q6⟩ | ⟨b, o, cs, ro, q1, q2, q3, q4⟩
    · subst q q'
      simp only
      rw [if_pos (by simp at hsz; omega)]
      have := fin st rfl (fun _ _ => rfl)
      simpa [St.grow] using this
    · subst q1
      simp only
      rw [if_pos (by omega)]
      have hc : st.cells ⟨b, o, none⟩ (l.length * 1) = some (l.map u8v) := by
        simp only [St.cells, q3, Nat.mul_one]
        rw [if_pos q5, q6]
      simp only [q3, hc, Nat.one_ne_zero, if_false, true_and]
      rw [if_pos (by omega)]
      have := fin (st.put b none) rfl (fun i hi => by rw [St.get_put, if_neg (fun e => hi (by show i + 1 = b + 1; omega))])
      simpa [St.grow] using this
    · subst q1 q2
      simp only
      rw [if_pos (by simp at hsz; omega)]
      have hc : st.cells ⟨b, o, none⟩ (0 * 1) = some [] := by
        simp only [St.cells, q3, Nat.zero_mul, Nat.add_zero, List.take_zero]
        rw [if_pos q4]
      simp only [q3, hc, if_true]
      rw [if_neg (by omega)]
      have := fin st rfl (fun _ _ => rfl)
      simpa [St.grow] using this

theorem Bys.cells (h : Bys st v l) : cellsOf v = [v] := by
  obtain ⟨a, cap, rfl⟩ := h.cap
  rfl
theorem Bys.one (h : Bys st v l) : oneCell v = true := by
  obtain ⟨a, cap, rfl⟩ := h.cap
  rfl
theorem nthK_at {cs : List Value} {o : Nat} {v : Value} (h : cs[o]? = some v) (K : Value → Prop) : nthK cs o K = K v := by unfold nthK; rw [h]
theorem u8v_inj (a b : UInt8) : ((a.toNat : Int) = (b.toNat : Int)) ↔ a = b := by
  constructor
  · intro h; exact UInt8.toNat_inj.1 (by omega)
  · intro h; rw [h]
theorem wk_sliceLit0 {W : Value → St → Prop} : wopK (.sliceLit [] 0 []) [] st W = W (.slice (some ⟨st.next, 0, none⟩) 0 0) (st.new (.row [] 0 false)) := of_eq_true (eq_self _)
theorem nil_bys (h : Bys st v l) (neg : Bool) (K : Value → Prop) : popK (.nilEq .slice neg) [v, .slice none 0 0] K = if ow v = 0 then K (.bool (xor neg true)) else K (.bool (xor neg false)) := by
  rcases h with ⟨h, h'⟩ | ⟨b, o, cap, cs, g, ro, q1, q2, q3, q4, q5, q6⟩ | ⟨ad, h, h'⟩
  · subst h; rw [pk_nilSlice]; rfl
  · subst q1; rw [pk_nilSlice]; rfl
  · subst h; rw [pk_nilSlice]; rfl
theorem Bys.ow0 (h : Bys st v l) (h0 : ow v = 0) : v = .slice none 0 0 ∧ l = [] := by
  rcases h with h | ⟨b, o, cap, cs, g, ro, q1, q2, q3, q4, q5, q6⟩ | ⟨ad, h, h'⟩
  · exact h
  · subst q1; cases h0
  · subst h; cases h0
end
end Go.Am
end
section
set_option linter.unusedVariables false
namespace Go.Am
theorem sxA : type_of% (And.intro @getE_cons <| And.intro @argE_t <| And.intro @argE_c <| And.intro @argE_g <| And.intro @argsE_nil <| And.intro @argsE_cons <| And.intro @opE_eq <| And.intro @listE_nil <| And.intro @listE_some <| And.intro @listE_none <| And.intro @grpsE_nil <| And.intro @grpsE_some <| And.intro @grpsE_none <| And.intro @getU_cons <| And.intro @putK_nil <| And.intro @putK_some <| And.intro @putK_none <| And.intro @putU_nil <| And.intro @putU_some <| And.intro @putU_none <| And.intro @grpsE_grp <| And.intro @sx_skip <| And.intro @sx_region <| And.intro @sx_seq <| And.intro @sx_cond <| And.intro @sx_block <| And.intro @sx_loop <| And.intro @sx_exit <| And.intro @sx_ret <| And.intro @fnP_0 <| And.intro @fnP_1 <| And.intro @fnP_2 <| And.intro @fnP_3 <| And.intro @fnP_4 <| And.intro @opK_p <| And.intro @opK_r <| And.intro @opK_w <| And.intro @opK_next <| And.intro @opK_call <| And.intro @opK_callV <| And.intro @defsV_tuple <| And.intro @defsK_func <| And.intro @defsK_end <| And.intro @endK_get <| And.intro @fnD_1 <| And.intro @fnD_2 <| And.intro @fnD_3 <| And.intro @resP_0 <| And.intro @resP_1 <| And.intro @resP_2 <| And.intro @resP_3 <| And.intro @rowK_row <| And.intro @mapK_map <| And.intro @nthK_zero <| And.intro @nthK_succ <| And.intro @lget_zero <| And.intro @lget_succ <| And.intro @grpJ_tt <| And.intro @grpJ_ff <| And.intro @grpJ_tf <| And.intro @grpJ_ft <| And.intro @grpJ_un <| And.intro @condK_t <| And.intro @condK_f <| And.intro @pt_pick <| And.intro @pf_pick <| And.intro @pt_not <| And.intro @pf_not <| And.intro @qt_eqI <| And.intro @qf_eqI <| And.intro @qt_neqI <| And.intro @qf_neqI <| And.intro @qt_lssI <| And.intro @qf_lssI <| And.intro @qt_leqI <| And.intro @qf_leqI <| And.intro @qt_gtrI <| And.intro @qf_gtrI <| And.intro @qt_geqI <| And.intro @qf_geqI <| And.intro @q_addI <| And.intro @q_subI <| And.intro @q_rem <| And.intro @q_min <| And.intro @q_max <| And.intro @pk_push <| And.intro @pk_move <| And.intro @pk_neg <| And.intro @pk_addS <| And.intro @pk_mulI <| And.intro @pk_binB <| And.intro @pk_nilPtr <| And.intro @pk_nilMap <| And.intro @pk_nilSlice <| And.intro @pk_nilIfaceN <| And.intro @pk_nilIface <| And.intro @pk_build0 <| And.intro @pk_ext0 <| And.intro @pk_ext1 <| And.intro @pk_ext30 <| And.intro @pk_ext31 <| And.intro @pk_ext32 <| And.intro @pk_ext1_ <| And.intro @pk_lenStr <| And.intro @pk_lenSl <| And.intro @pk_fieldAddr <| And.intro @pk_nilCheck <| And.intro @pk_nilCheckI <| And.intro @pk_indexAddr <| And.intro @pk_indexAddrArr <| And.intro @pk_mkIface <| And.intro @pk_assertT <| And.intro @pk_slLo <| And.intro @pk_slHi <| And.intro @rk_load1 <| And.intro @rk_same1 <| And.intro @rk_lookupS <| And.intro @rk_lookupI <| And.intro @rk_lenMap <| And.intro @wk_box <| And.intro @wk_new <| And.intro @wk_mkMap <| And.intro @wk_mapSetS <| And.intro @wk_mapSetI <| And.intro @pk_field <| And.intro @pk_mkFunc <| And.intro @wk_boxA <| And.intro @wk_strToBytes <| And.intro @wk_delS <| And.intro @wk_delI <| And.intro @pk_build <| And.intro @wk_range <| And.intro @pk_convI <| And.intro @wk_sliceLit <| And.intro @wk_sliceLit0 <| And.intro @pj_eqS <| And.intro @pj_neqS <| And.intro @pj_eqI <| And.intro @pj_neqI <| And.intro @pj_lssI <| And.intro @pj_leqI <| And.intro @pj_gtrI <| @pj_geqI) :=
  And.intro @getE_cons <| And.intro @argE_t <| And.intro @argE_c <| And.intro @argE_g <| And.intro @argsE_nil <| And.intro @argsE_cons <| And.intro @opE_eq <| And.intro @listE_nil <| And.intro @listE_some <| And.intro @listE_none <| And.intro @grpsE_nil <| And.intro @grpsE_some <| And.intro @grpsE_none <| And.intro @getU_cons <| And.intro @putK_nil <| And.intro @putK_some <| And.intro @putK_none <| And.intro @putU_nil <| And.intro @putU_some <| And.intro @putU_none <| And.intro @grpsE_grp <| And.intro @sx_skip <| And.intro @sx_region <| And.intro @sx_seq <| And.intro @sx_cond <| And.intro @sx_block <| And.intro @sx_loop <| And.intro @sx_exit <| And.intro @sx_ret <| And.intro @fnP_0 <| And.intro @fnP_1 <| And.intro @fnP_2 <| And.intro @fnP_3 <| And.intro @fnP_4 <| And.intro @opK_p <| And.intro @opK_r <| And.intro @opK_w <| And.intro @opK_next <| And.intro @opK_call <| And.intro @opK_callV <| And.intro @defsV_tuple <| And.intro @defsK_func <| And.intro @defsK_end <| And.intro @endK_get <| And.intro @fnD_1 <| And.intro @fnD_2 <| And.intro @fnD_3 <| And.intro @resP_0 <| And.intro @resP_1 <| And.intro @resP_2 <| And.intro @resP_3 <| And.intro @rowK_row <| And.intro @mapK_map <| And.intro @nthK_zero <| And.intro @nthK_succ <| And.intro @lget_zero <| And.intro @lget_succ <| And.intro @grpJ_tt <| And.intro @grpJ_ff <| And.intro @grpJ_tf <| And.intro @grpJ_ft <| And.intro @grpJ_un <| And.intro @condK_t <| And.intro @condK_f <| And.intro @pt_pick <| And.intro @pf_pick <| And.intro @pt_not <| And.intro @pf_not <| And.intro @qt_eqI <| And.intro @qf_eqI <| And.intro @qt_neqI <| And.intro @qf_neqI <| And.intro @qt_lssI <| And.intro @qf_lssI <| And.intro @qt_leqI <| And.intro @qf_leqI <| And.intro @qt_gtrI <| And.intro @qf_gtrI <| And.intro @qt_geqI <| And.intro @qf_geqI <| And.intro @q_addI <| And.intro @q_subI <| And.intro @q_rem <| And.intro @q_min <| And.intro @q_max <| And.intro @pk_push <| And.intro @pk_move <| And.intro @pk_neg <| And.intro @pk_addS <| And.intro @pk_mulI <| And.intro @pk_binB <| And.intro @pk_nilPtr <| And.intro @pk_nilMap <| And.intro @pk_nilSlice <| And.intro @pk_nilIfaceN <| And.intro @pk_nilIface <| And.intro @pk_build0 <| And.intro @pk_ext0 <| And.intro @pk_ext1 <| And.intro @pk_ext30 <| And.intro @pk_ext31 <| And.intro @pk_ext32 <| And.intro @pk_ext1_ <| And.intro @pk_lenStr <| And.intro @pk_lenSl <| And.intro @pk_fieldAddr <| And.intro @pk_nilCheck <| And.intro @pk_nilCheckI <| And.intro @pk_indexAddr <| And.intro @pk_indexAddrArr <| And.intro @pk_mkIface <| And.intro @pk_assertT <| And.intro @pk_slLo <| And.intro @pk_slHi <| And.intro @rk_load1 <| And.intro @rk_same1 <| And.intro @rk_lookupS <| And.intro @rk_lookupI <| And.intro @rk_lenMap <| And.intro @wk_box <| And.intro @wk_new <| And.intro @wk_mkMap <| And.intro @wk_mapSetS <| And.intro @wk_mapSetI <| And.intro @pk_field <| And.intro @pk_mkFunc <| And.intro @wk_boxA <| And.intro @wk_strToBytes <| And.intro @wk_delS <| And.intro @wk_delI <| And.intro @pk_build <| And.intro @wk_range <| And.intro @pk_convI <| And.intro @wk_sliceLit <| And.intro @wk_sliceLit0 <| And.intro @pj_eqS <| And.intro @pj_neqS <| And.intro @pj_eqI <| And.intro @pj_neqI <| And.intro @pj_lssI <| And.intro @pj_leqI <| And.intro @pj_gtrI <| @pj_geqI
theorem sxB : type_of% (And.intro @getK_some <| And.intro @get_put_same <| And.intro @get_put_ne <| And.intro @get_new_same <| And.intro @get_new_ne <| And.intro @lputs_5 <| And.intro @lputs_6 <| And.intro @lputs_z <| And.intro @lputs_s <| And.intro @fillK_nil <| And.intro @fillK_cons <| And.intro @fillC_nil <| And.intro @fillC_cons <| And.intro @St.next_new <| And.intro @St.next_put <| And.intro @lputs_0 <| And.intro @lputs_1 <| And.intro @lputs_2 <| And.intro @lputs_3 <| And.intro @lputs_4 <| And.intro @Bool.and_true <| And.intro @Bool.true_and <| And.intro @Nat.zero_add <| And.intro @Nat.add_zero <| And.intro @Value.bool.injEq <| And.intro @Bool.not_true <| And.intro @Bool.not_false <| And.intro @Bool.bne_true <| And.intro @Bool.bne_false <| And.intro @Bool.xor_false <| And.intro @Bool.xor_true <| And.intro @Bool.false_xor <| And.intro @Bool.true_xor <| And.intro @true_and <| And.intro @and_true <| And.intro @Bool.not_not <| And.intro @cgT_eq <| And.intro @cells_agg <| And.intro @cells_int <| And.intro @cells_str <| And.intro @cells_bool <| And.intro @cells_slice <| And.intro @cells_ptr <| And.intro @cells_map <| And.intro @cells_iface <| And.intro @cells_nif <| And.intro @one_int <| And.intro @one_str <| And.intro @one_bool <| And.intro @one_slice <| And.intro @one_ptr <| And.intro @one_map <| And.intro @one_iface <| And.intro @one_nif <| And.intro @one_eqSlice <| And.intro @one_eqStr <| And.intro @one_eqInt <| And.intro @one_eqBool <| And.intro @one_eqPtr <| And.intro @one_eqMap <| And.intro @cast_zero <| @cast_one) :=
  And.intro @getK_some <| And.intro @get_put_same <| And.intro @get_put_ne <| And.intro @get_new_same <| And.intro @get_new_ne <| And.intro @lputs_5 <| And.intro @lputs_6 <| And.intro @lputs_z <| And.intro @lputs_s <| And.intro @fillK_nil <| And.intro @fillK_cons <| And.intro @fillC_nil <| And.intro @fillC_cons <| And.intro @St.next_new <| And.intro @St.next_put <| And.intro @lputs_0 <| And.intro @lputs_1 <| And.intro @lputs_2 <| And.intro @lputs_3 <| And.intro @lputs_4 <| And.intro @Bool.and_true <| And.intro @Bool.true_and <| And.intro @Nat.zero_add <| And.intro @Nat.add_zero <| And.intro @Value.bool.injEq <| And.intro @Bool.not_true <| And.intro @Bool.not_false <| And.intro @Bool.bne_true <| And.intro @Bool.bne_false <| And.intro @Bool.xor_false <| And.intro @Bool.xor_true <| And.intro @Bool.false_xor <| And.intro @Bool.true_xor <| And.intro @true_and <| And.intro @and_true <| And.intro @Bool.not_not <| And.intro @cgT_eq <| And.intro @cells_agg <| And.intro @cells_int <| And.intro @cells_str <| And.intro @cells_bool <| And.intro @cells_slice <| And.intro @cells_ptr <| And.intro @cells_map <| And.intro @cells_iface <| And.intro @cells_nif <| And.intro @one_int <| And.intro @one_str <| And.intro @one_bool <| And.intro @one_slice <| And.intro @one_ptr <| And.intro @one_map <| And.intro @one_iface <| And.intro @one_nif <| And.intro @one_eqSlice <| And.intro @one_eqStr <| And.intro @one_eqInt <| And.intro @one_eqBool <| And.intro @one_eqPtr <| And.intro @one_eqMap <| And.intro @cast_zero <| @cast_one
theorem sxP.{u} : type_of% (And.intro @List.drop_succ_cons.{u} <| And.intro @List.drop_zero.{u} <| And.intro @List.drop_nil.{u} <| And.intro @List.cons_append.{u} <| And.intro @List.nil_append.{u} <| And.intro @List.length_cons.{u} <| And.intro @List.length_nil.{u} <| And.intro @List.all_cons.{u} <| And.intro @List.all_nil.{u} <| And.intro @List.toList_toArray.{u} <| And.intro @if_true.{u} <| And.intro @if_false.{u} <| And.intro @Option.getD_some.{u} <| And.intro @Option.some.injEq.{u} <| And.intro @cond_true.{u} <| And.intro @cond_false.{u} <| And.intro @Option.isNone_some.{u} <| And.intro @Option.isNone_none.{u} <| And.intro @bne_self_eq_false.{u} <| @beq_self_eq_true.{u}) :=
  And.intro @List.drop_succ_cons.{u} <| And.intro @List.drop_zero.{u} <| And.intro @List.drop_nil.{u} <| And.intro @List.cons_append.{u} <| And.intro @List.nil_append.{u} <| And.intro @List.length_cons.{u} <| And.intro @List.length_nil.{u} <| And.intro @List.all_cons.{u} <| And.intro @List.all_nil.{u} <| And.intro @List.toList_toArray.{u} <| And.intro @if_true.{u} <| And.intro @if_false.{u} <| And.intro @Option.getD_some.{u} <| And.intro @Option.some.injEq.{u} <| And.intro @cond_true.{u} <| And.intro @cond_false.{u} <| And.intro @Option.isNone_some.{u} <| And.intro @Option.isNone_none.{u} <| And.intro @bne_self_eq_false.{u} <| @beq_self_eq_true.{u}
end Go.Am
end
