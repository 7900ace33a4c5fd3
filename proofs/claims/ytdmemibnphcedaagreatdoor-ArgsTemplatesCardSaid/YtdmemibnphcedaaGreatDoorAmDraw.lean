/-
  A region that draws its order: its operations, each pair of which waits or may be exchanged, come to the same in every order.
-/
import Derived.Test.YtdmemibnphcedaaGreatDoorAmCode
set_option linter.unusedSimpArgs false
set_option linter.unusedVariables false
set_option maxRecDepth 10000
namespace Go.Am
open Go.RowKit (Below)

theorem Out.all_mono {α : Type} {p q : α → Prop} (h : ∀ a, p a → q a) : ∀ {o : Out α}, o.all p → o.all q
  | .ret a, hp => h a hp
  | .fail, hp => hp
  | .ask _ _, hp => ⟨hp.1, fun i hi => Out.all_mono h (hp.2 i hi)⟩
theorem Out.all_some {α : Type} {p : α → Prop} : ∀ {o : Out α}, o.all p → ∃ a, p a
  | .ret a, hp => ⟨a, hp⟩
  | .fail, hp => hp.elim
  | .ask _ _, hp => Out.all_some (hp.2 0 hp.1)
theorem Out.all_bind {α β : Type} {f : α → Out β} {p : β → Prop} : ∀ {o : Out α}, (o.bind f).all p ↔ o.all fun a => (f a).all p
  | .ret a => Iff.rfl
  | .fail => Iff.rfl
  | .ask n k => by
    simp only [Out.bind, Out.all]
    exact and_congr Iff.rfl (forall_congr' fun i => imp_congr Iff.rfl Out.all_bind)

section
variable {T : Tab} {F : CallF}

/-- an operation that reads at most: its value -/
def stepV (o : AOp) (vs : List Value) (s : St) : Option Value :=
  match o with
  | .p o => pop o vs
  | .r o => rop o vs s
  | _ => none

def YV (o : AOper) (l : List Value) (s : St) (v : Value) : Prop :=
  (wantedL o l = true ∧ stepV o.op (o.args.map (Arg.ev l)) s = some v) ∨ (wantedL o l = false ∧ v = undef)

theorem YV.unique {o : AOper} {l : List Value} {s : St} {u v : Value} (h : YV o l s u) (k : YV o l s v) : u = v := by
  rcases h with ⟨h1, h2⟩ | ⟨h1, h2⟩ <;> rcases k with ⟨k1, k2⟩ | ⟨k1, k2⟩
  · rw [h2] at k2; exact Option.some.inj k2
  · rw [h1] at k1; cases k1
  · rw [h1] at k1; cases k1
  · rw [h2, k2]

/-- operation number i is next -/
def oneOp (T : Tab) (F : CallF) (o : AOper) (l : List Value) (s : St) (C : List Value → St → Prop) : Prop :=
  if wantedL o l then (opStep T F o.op (o.args.map (Arg.ev l)) s).all fun r => C (putL l o.dst r.1) r.2 else C (putL l o.dst undef) s

theorem oneOp_mono {o : AOper} {l : List Value} {s : St} {C C' : List Value → St → Prop} (h : ∀ l s, C l s → C' l s) (k : oneOp T F o l s C) : oneOp T F o l s C' := by
  unfold oneOp at *
  split
  · rename_i hw; rw [if_pos hw] at k; exact Out.all_mono (fun r => h _ _) k
  · rename_i hw; rw [if_neg hw] at k; exact h _ _ k

theorem oneOp_reads {o : AOper} (hr : o.op.reads = true) {l : List Value} {s : St} {C : List Value → St → Prop} : oneOp T F o l s C ↔ ∃ v, YV o l s v ∧ C (putL l o.dst v) s := by
  unfold oneOp YV
  by_cases hw : wantedL o l = true
  · rw [if_pos hw]
    have hs : ∀ {q : AOp}, q.reads = true → (((opStep T F q (o.args.map (Arg.ev l)) s).all fun r => C (putL l o.dst r.1) r.2) ↔ ∃ v, stepV q (o.args.map (Arg.ev l)) s = some v ∧ C (putL l o.dst v) s) := fun {q} hq => by
      cases q <;> simp [AOp.reads] at hq
      · simp only [opStep, stepV]
        rename_i p
        cases hp : pop p (o.args.map (Arg.ev l)) <;> simp [Out.all]
      · simp only [opStep, stepV]
        rename_i p
        cases hp : rop p (o.args.map (Arg.ev l)) s <;> simp [Out.all]
    rw [hs hr]
    constructor
    · rintro ⟨v, h1, h2⟩; exact ⟨v, .inl ⟨hw, h1⟩, h2⟩
    · rintro ⟨v, h1 | h1, h2⟩
      · exact ⟨v, h1.2, h2⟩
      · rw [hw] at h1; cases h1.1
  · rw [if_neg hw]
    have hw' : wantedL o l = false := by simpa using hw
    constructor
    · intro h; exact ⟨undef, .inr ⟨hw', rfl⟩, h⟩
    · rintro ⟨v, h1 | h1, h2⟩
      · exact absurd h1.1 hw
      · rw [h1.2] at h2; exact h2

theorem lget_lset (v : Value) : ∀ (l : List Value) (d k : Nat), k ≠ d → lget (lset l d v) k = lget l k
  | [], _, _, _ => rfl
  | x :: l, 0, 0, h => absurd rfl h
  | x :: l, 0, k + 1, _ => rfl
  | x :: l, d + 1, 0, _ => rfl
  | x :: l, d + 1, k + 1, h => by simp only [lset, lget]; exact lget_lset v l d k (by omega)

theorem lset_comm (u v : Value) : ∀ (l : List Value) (d e : Nat), d ≠ e → lset (lset l d u) e v = lset (lset l e v) d u
  | [], _, _, _ => rfl
  | x :: l, 0, 0, h => absurd rfl h
  | x :: l, 0, k + 1, _ => rfl
  | x :: l, d + 1, 0, _ => rfl
  | x :: l, d + 1, k + 1, h => by simp only [lset]; rw [lset_comm u v l d k (by omega)]

theorem put_other {o : AOper} {d : Option Nat} (h : ∀ k, d = some k → k ∉ looks o) (l : List Value) (v : Value) : o.args.map (Arg.ev (putL l d v)) = o.args.map (Arg.ev l) ∧ wantedL o (putL l d v) = wantedL o l := by
  cases d with
  | none => exact ⟨rfl, rfl⟩
  | some k =>
    have hk := h k rfl
    simp only [looks, List.mem_append, List.mem_filterMap, not_or, not_exists, not_and] at hk
    refine ⟨List.map_congr_left fun x hx => ?_, ?_⟩
    · cases x with
      | t n =>
        simp only [Arg.ev, putL]
        exact lget_lset v l k n fun e => hk.1 (.t n) hx (by simp [e])
      | _ => rfl
    · unfold wantedL
      cases hg : o.guard with
      | none => rfl
      | some gw =>
        obtain ⟨g, want⟩ := gw
        have hne : g ≠ k := fun e => hk.2 (by rw [hg]; simp [e])
        simp only [yieldedL, putL]
        rw [lget_lset v l k g hne]

theorem putL_comm {x y : Option Nat} (h : ∀ d, x = some d → y ≠ some d) (l : List Value) (u v : Value) : putL (putL l x u) y v = putL (putL l y v) x u := by
  cases x with
  | none => rfl
  | some d =>
    cases y with
    | none => rfl
    | some e => exact lset_comm u v l d e fun he => h d rfl (by rw [he])

/-- two operations, apart and exchangeable -/
theorem oneOp_swap {oi oj : AOper} (h1 : ∀ d, oi.dst = some d → d ∉ looks oj) (h2 : ∀ d, oi.dst = some d → oj.dst ≠ some d) (h3 : ∀ d, oj.dst = some d → d ∉ looks oi) (hs : oi.op.swap oj.op = true) {l : List Value} {s : St} {C : List Value → St → Prop}
    (h : oneOp T F oi l s fun l s => oneOp T F oj l s C) : oneOp T F oj l s fun l s => oneOp T F oi l s C := by
  have yi : ∀ (u : Value) (s1 s2 : St) (v : Value), (oi.op.pure = true ∨ s1 = s2) → (YV oi (putL l oj.dst u) s1 v ↔ YV oi l s2 v) := fun u s1 s2 v hp => by
    obtain ⟨e1, e2⟩ := put_other h3 l u
    unfold YV
    rw [e1, e2]
    rcases hp with hp | rfl
    · cases hq : oi.op <;> rw [hq] at hp <;> simp [AOp.pure] at hp; rfl
    · rfl
  have yj : ∀ (u : Value) (s1 s2 : St) (v : Value), (oj.op.pure = true ∨ s1 = s2) → (YV oj (putL l oi.dst u) s1 v ↔ YV oj l s2 v) := fun u s1 s2 v hp => by
    obtain ⟨e1, e2⟩ := put_other h1 l u
    unfold YV
    rw [e1, e2]
    rcases hp with hp | rfl
    · cases hq : oj.op <;> rw [hq] at hp <;> simp [AOp.pure] at hp; rfl
    · rfl
  have pr : ∀ {q : AOp}, q.pure = true → q.reads = true := fun {q} hq => by cases q <;> simp [AOp.pure] at hq; rfl
  by_cases hip : oi.op.pure = true
  · rw [oneOp_reads (pr hip)] at h
    obtain ⟨v, hv, hj⟩ := h
    obtain ⟨e1, e2⟩ := put_other h1 l v
    unfold oneOp at hj ⊢
    rw [e1, e2] at hj
    have fin : ∀ (u : Value) (s1 : St), C (putL (putL l oi.dst v) oj.dst u) s1 → oneOp T F oi (putL l oj.dst u) s1 C := fun u s1 hc => by
      rw [oneOp_reads (pr hip)]
      exact ⟨v, (yi u s1 s v (.inl hip)).2 hv, by rw [putL_comm (fun d hd he => h2 d he hd)]; exact hc⟩
    split
    · rename_i hw; rw [if_pos hw] at hj; exact Out.all_mono (fun r => fin _ _) hj
    · rename_i hw; rw [if_neg hw] at hj; exact fin _ _ hj
  · by_cases hjp : oj.op.pure = true
    · rw [oneOp_reads (pr hjp)]
      unfold oneOp at h
      by_cases hw : wantedL oi l = true
      · rw [if_pos hw] at h
        have h' : (opStep T F oi.op (oi.args.map (Arg.ev l)) s).all fun r => ∃ u, YV oj l s u ∧ C (putL (putL l oi.dst r.1) oj.dst u) r.2 := Out.all_mono (fun r hr => by
          rw [show (fun (l : List Value) (s : St) => if wantedL oj l = true then (opStep T F oj.op (oj.args.map (Arg.ev l)) s).all fun r => C (putL l oj.dst r.1) r.2 else C (putL l oj.dst undef) s) = fun l s => oneOp T F oj l s C from rfl] at *
          have := (oneOp_reads (T := T) (F := F) (pr hjp)).1 hr
          obtain ⟨u, hu, hc⟩ := this
          exact ⟨u, (yj r.1 r.2 s u (.inl hjp)).1 hu, hc⟩) h
        obtain ⟨_, u, hu, _⟩ := Out.all_some h'
        refine ⟨u, hu, ?_⟩
        obtain ⟨e1, e2⟩ := put_other h3 l u
        unfold oneOp
        rw [e1, e2, if_pos hw]
        refine Out.all_mono (fun r hr => ?_) h'
        obtain ⟨u', hu', hc⟩ := hr
        rw [YV.unique hu hu', putL_comm (fun d hd he => h2 d he hd)]
        exact hc
      · rw [if_neg hw] at h
        obtain ⟨u, hu, hc⟩ := (oneOp_reads (T := T) (F := F) (pr hjp)).1 h
        refine ⟨u, (yj undef s s u (.inl hjp)).1 hu, ?_⟩
        obtain ⟨e1, e2⟩ := put_other h3 l u
        unfold oneOp
        rw [e2, if_neg hw, putL_comm (fun d hd he => h2 d he hd)]
        exact hc
    · have hir : oi.op.reads = true ∧ oj.op.reads = true := by
        simp only [AOp.swap, Bool.or_eq_true, Bool.and_eq_true] at hs
        rcases hs with (hs | hs) | hs
        · exact absurd hs hip
        · exact absurd hs hjp
        · exact hs
      rw [oneOp_reads hir.1] at h
      obtain ⟨v, hv, hj⟩ := h
      rw [oneOp_reads hir.2] at hj
      obtain ⟨u, hu, hc⟩ := hj
      rw [oneOp_reads hir.2]
      refine ⟨u, (yj v s s u (.inr rfl)).1 hu, ?_⟩
      rw [oneOp_reads hir.1]
      exact ⟨v, (yi u s s v (.inr rfl)).2 hv, by rw [putL_comm (fun d hd he => h2 d he hd)]; exact hc⟩

/-! ### whatever order the tape picks -/
def anyOrder (T : Tab) (F : CallF) (ops : Array Oper) (aops : List AOper) (K : List Value → St → Prop) : Nat → Array Bool → List Value → St → Prop
  | 0, listed, l, s => Region.ready .any ops listed = [] ∧ K l s
  | fuel + 1, listed, l, s => (Region.ready .any ops listed = [] → K l s) ∧
    ∀ i ∈ Region.ready .any ops listed, ∀ o, aops[i]? = some o → oneOp T F o l s (anyOrder T F ops aops K fuel (listed.setIfInBounds i true))

/-- what two operations of a region owe each other -/
def FreeOf (oi oj : AOper) : Prop := (∀ d, oi.dst = some d → d ∉ looks oj) ∧ (∀ d, oi.dst = some d → oj.dst ≠ some d) ∧ (∀ d, oj.dst = some d → d ∉ looks oi) ∧ oi.op.swap oj.op = true

/-- what is listed waits for nothing that is not -/
def Closed (ops : Array Oper) (listed : Array Bool) : Prop :=
  ∀ (k : Nat) (ok : Oper), ops[k]? = some ok → listed.getD k false = true → ∀ e ∈ ok.after, Region.binds .any e = true → listed.getD e.on false = true

theorem getD_tf {listed : Array Bool} {i : Nat} (h : listed.getD i false = true) : listed.getD i true = true := by
  rcases Nat.lt_or_ge i listed.size with h' | h'
  · simp [h'] at h ⊢; exact h
  · simp [Array.getElem?_eq_none h'] at h

theorem Closed.put {ops : Array Oper} {listed : Array Bool} (h : Closed ops listed) {j : Nat} (hj : j ∈ Region.ready .any ops listed) : Closed ops (listed.setIfInBounds j true) := by
  intro k ok hk hl e he hb
  obtain ⟨_, oj, hoj, hall⟩ := mem_ready.1 hj
  by_cases hjk : j = k
  · subst hjk
    rw [hoj] at hk
    cases hk
    exact getD_set_true (hall e he hb)
  · rw [getD_set_ne false hjk] at hl
    exact getD_set_true (h k ok hk hl e he hb)

theorem fold_bit (acc : List Nat) : ∀ (es : List Edge) (m i : Nat), (es.foldl (fun m e => bif Region.binds .any e then m ||| (1 <<< e.on) ||| (acc.getD e.on 0) else m) m).testBit i = true →
    m.testBit i = true ∨ ∃ e ∈ es, Region.binds .any e = true ∧ (e.on = i ∨ (acc.getD e.on 0).testBit i = true)
  | [], m, i, h => .inl h
  | e :: es, m, i, h => by
    simp only [List.foldl_cons] at h
    rcases fold_bit acc es _ i h with h | ⟨e', h1, h2, h3⟩
    · cases hb : Region.binds .any e with
      | false => rw [hb] at h; exact .inl h
      | true =>
        rw [hb] at h
        simp only [cond_true, Nat.testBit_or, Bool.or_eq_true] at h
        rcases h with (h | h) | h
        · exact .inl h
        · refine .inr ⟨e, by simp, hb, .inl ?_⟩
          rw [Nat.testBit_shiftLeft] at h
          simp only [Bool.and_eq_true, decide_eq_true_eq] at h
          obtain ⟨h1, h2⟩ := h
          have : i - e.on = 0 := by
            cases hd : i - e.on with
            | zero => rfl
            | succ n => rw [hd] at h2; simp [Nat.testBit_succ] at h2
          omega
        · exact .inr ⟨e, by simp, hb, .inr h⟩
    · exact .inr ⟨e', by simp [h1], h2, h3⟩

/-- what an operation whose own edges are listed waits for is listed -/
theorem ancs_listed {ops : Array Oper} {listed : Array Bool} (hc : Closed ops listed) : ∀ (os : List Oper) (acc : List Nat), (∀ j, os[j]? = ops[acc.length + j]?) →
    (∀ k, k < acc.length → ∀ ok, ops[k]? = some ok → (∀ e ∈ ok.after, Region.binds .any e = true → listed.getD e.on false = true) → ∀ i, (acc.getD k 0).testBit i = true → listed.getD i false = true) →
    ∀ k ok, ops[k]? = some ok → (∀ e ∈ ok.after, Region.binds .any e = true → listed.getD e.on false = true) → ∀ i, ((ancs os acc).getD k 0).testBit i = true → listed.getD i false = true
  | [], acc, hos, hacc, k, ok, hk, hall, i, hb => by
    simp only [ancs] at hb
    rcases Nat.lt_or_ge k acc.length with h | h
    · exact hacc k h ok hk hall i hb
    · rw [List.getD_eq_getElem?_getD, List.getElem?_eq_none h] at hb
      simp at hb
  | o :: os, acc, hos, hacc, k, ok, hk, hall, i, hb => by
    simp only [ancs] at hb
    have h0 : ops[acc.length]? = some o := by have := hos 0; simpa using this.symm
    refine ancs_listed hc os (acc ++ [ancOf acc o]) (fun j => ?_) (fun k hk ok hok hall i hb => ?_) k ok hk hall i hb
    · have := hos (j + 1)
      simp only [List.getElem?_cons_succ] at this
      rw [this]
      simp [Nat.add_assoc, Nat.add_comm 1 j]
    · simp only [List.length_append, List.length_cons, List.length_nil] at hk
      rcases Nat.lt_or_ge k acc.length with h | h
      · rw [List.getD_eq_getElem?_getD, List.getElem?_append_left h, ← List.getD_eq_getElem?_getD] at hb
        exact hacc k h ok hok hall i hb
      · have hke : k = acc.length := by omega
        subst hke
        rw [h0] at hok
        cases hok
        rw [List.getD_eq_getElem?_getD, List.getElem?_append_right (Nat.le_refl _)] at hb
        simp only [Nat.sub_self, List.getElem?_cons_zero, Option.getD_some] at hb
        rcases fold_bit acc _ 0 i hb with h1 | ⟨e, h1, h2, h3⟩
        · simp at h1
        · have hl := hall e (by simpa using h1) h2
          rcases h3 with h3 | h3
          · rw [← h3]; exact hl
          · rcases Nat.lt_or_ge e.on acc.length with h4 | h4
            · have : ∃ oe, ops[e.on]? = some oe := by
                have hlt : acc.length < ops.size := by
                  rcases Nat.lt_or_ge acc.length ops.size with hh | hh
                  · exact hh
                  · rw [Array.getElem?_eq_none hh] at h0; cases h0
                exact ⟨_, Array.getElem?_eq_getElem (by omega : e.on < ops.size)⟩
              obtain ⟨oe, hoe⟩ := this
              exact hacc e.on h4 oe hoe (fun e' he' hb' => hc e.on oe hoe hl e' he' hb') i h3
            · rw [List.getD_eq_getElem?_getD, List.getElem?_eq_none h4] at h3
              simp at h3

theorem any_first {ops : Array Oper} {aops : List AOper} {K : List Value → St → Prop} {i : Nat} {oi : AOper} (hi : aops[i]? = some oi) : ∀ (fuel : Nat) (listed : Array Bool) (l : List Value) (s : St), Closed ops listed →
    (∀ (j : Nat) (oj : Oper) (aj : AOper), ops[j]? = some oj → aops[j]? = some aj → j ≠ i → listed.getD j true = false → ((ancs ops.toList []).getD j 0).testBit i = false → FreeOf oi aj) →
    i ∈ Region.ready .any ops listed → oneOp T F oi l s (anyOrder T F ops aops K fuel (listed.setIfInBounds i true)) → anyOrder T F ops aops K (fuel + 1) listed l s := by
  intro fuel
  induction fuel with
  | zero =>
    intro listed l s _ _ hr H
    refine ⟨fun h => (by rw [h] at hr; cases hr), fun j hj o ho => ?_⟩
    by_cases hji : j = i
    · subst hji; rw [hi] at ho; cases ho; exact H
    · have h1 := ready_mono hj hji
      have : ∃ l s, anyOrder T F ops aops K 0 (listed.setIfInBounds i true) l s := by
        unfold oneOp at H
        split at H
        · obtain ⟨r, hr⟩ := Out.all_some H; exact ⟨_, _, hr⟩
        · exact ⟨_, _, H⟩
      obtain ⟨_, _, h2, _⟩ := this
      rw [h2] at h1
      cases h1
  | succ fuel ih =>
    intro listed l s hcl hfree hr H
    refine ⟨fun h => (by rw [h] at hr; cases hr), fun j hj o ho => ?_⟩
    by_cases hji : j = i
    · subst hji; rw [hi] at ho; cases ho; exact H
    · obtain ⟨hjun, oj, hoj, hall⟩ := mem_ready.1 hj
      have hnot : ((ancs ops.toList []).getD j 0).testBit i = false := by
        cases hb : ((ancs ops.toList []).getD j 0).testBit i with
        | false => rfl
        | true =>
          have h1 := getD_tf (ancs_listed hcl ops.toList [] (fun j => by simp) (fun k hk => absurd hk (by simp)) j oj hoj hall i hb)
          rw [(mem_ready.1 hr).1] at h1
          cases h1
      obtain ⟨f1, f2, f3, f4⟩ := hfree j oj o hoj ho hji hjun hnot
      have hjr := ready_mono hj hji
      have H' : oneOp T F oi l s fun l s => oneOp T F o l s (anyOrder T F ops aops K fuel ((listed.setIfInBounds i true).setIfInBounds j true)) :=
        oneOp_mono (fun l s h => h.2 j hjr o ho) H
      have hsw := oneOp_swap f1 f2 f3 f4 H'
      have hfree' : ∀ (k : Nat) (ok : Oper) (ak : AOper), ops[k]? = some ok → aops[k]? = some ak → k ≠ i → (listed.setIfInBounds j true).getD k true = false → ((ancs ops.toList []).getD k 0).testBit i = false → FreeOf oi ak := fun k ok ak hok hak hki hun hno => by
        refine hfree k ok ak hok hak hki ?_ hno
        by_cases hjk : j = k
        · subst hjk; exact hjun
        · rw [getD_set_ne true hjk] at hun; exact hun
      refine oneOp_mono (fun l s h => ih (listed.setIfInBounds j true) l s (hcl.put hj) hfree' (ready_mono hr (Ne.symm hji)) ?_) hsw
      rw [Array.setIfInBounds_comm _ _ hji]
      exact h

theorem any_lex {ops : Array Oper} {aops : List AOper} {K : List Value × St → Prop}
    (hfr : ∀ (i j : Nat) (oj : Oper) (ai aj : AOper), i < j → ops[j]? = some oj → aops[i]? = some ai → aops[j]? = some aj → ((ancs ops.toList []).getD j 0).testBit i = false → FreeOf ai aj) :
    ∀ (rest : List AOper) (k : Nat) (listed : Array Bool) (l : List Value) (s : St), Closed ops listed → (∀ j, rest[j]? = aops[k + j]?) → (∀ j, j < k → listed.getD j true = true) → Region.lexFrom .any ops rest.length k listed = true →
      (runOps T F rest l s).all K → anyOrder T F ops aops (fun l s => K (l, s)) rest.length listed l s
  | [], k, listed, l, s, _, _, _, hB, h => ⟨by simpa [Region.lexFrom] using hB, h⟩
  | o :: rest, k, listed, l, s, hcl, hr, hlt, hB, h => by
    have h0 : aops[k]? = some o := by simpa using (hr 0).symm
    simp only [List.length_cons, Region.lexFrom, Bool.and_eq_true] at hB
    obtain ⟨⟨hrd, hf⟩, hB'⟩ := hB
    have hks : k < listed.size := by
      have := (mem_ready.1 (by simpa using hrd : k ∈ Region.ready .any ops listed)).1
      rcases Nat.lt_or_ge k listed.size with h' | h'
      · exact h'
      · simp [Array.getElem?_eq_none h'] at this
    have hkr : k ∈ Region.ready .any ops listed := by simpa using hrd
    have ih := fun l s => any_lex (K := K) hfr rest (k + 1) (listed.setIfInBounds k true) l s (hcl.put hkr)
    have hr' : ∀ j, rest[j]? = aops[k + 1 + j]? := fun j => by have := hr (j + 1); simpa [Nat.add_assoc, Nat.add_comm 1 j] using this
    have hlt' : ∀ j, j < k + 1 → (listed.setIfInBounds k true).getD j true = true := fun j hj => by
      by_cases hjk : j = k
      · subst hjk; simp [hks]
      · rw [getD_set_ne true (Ne.symm hjk)]; exact hlt j (by omega)
    refine any_first h0 rest.length listed l s hcl (fun j oj aj hoj haj hjk hun hno => ?_) (by simpa using hrd) ?_
    · have hkj : k < j := by
        rcases Nat.lt_or_ge k j with h' | h'
        · exact h'
        · have := hlt j (by omega)
          rw [hun] at this
          cases this
      exact hfr k j oj o aj hkj hoj h0 haj hno
    · simp only [runOps] at h
      unfold oneOp
      split
      · rename_i hw
        rw [if_pos hw, Out.all_bind] at h
        exact Out.all_mono (fun r hr0 => ih _ _ hr' hlt' hB' hr0) h
      · rename_i hw
        rw [if_neg hw] at h
        exact ih _ _ hr' hlt' hB' h

/-! ### reads that are asked for again -/
/-- what was read is still there -/
def Chk (o : AOper) (l : List Value) (s : St) : Prop := wantedL o l = true → ∃ d, o.dst = some d ∧ stepV o.op (o.args.map (Arg.ev l)) s = some (lget l d)

def Win (m : List Nat) (aops : List AOper) (i j : Nat) : Prop :=
  ∃ ai aj, aops[i]? = some ai ∧ aops[j]? = some aj ∧ i < j ∧ isLoad ai = true ∧ aj.op.reads = false ∧ (m.getD j 0).testBit i = false

/-- y doesn't look at x's slot, nor has it -/
def Unseen (x y : AOper) : Prop := ∀ d, x.dst = some d → d ∉ looks y ∧ y.dst ≠ some d

def FreeOf2 (oi oj : AOper) : Prop := Unseen oi oj ∧ (∀ d, oj.dst = some d → d ∉ looks oi) ∧ (oi.op.swap oj.op = true ∨ (isLoad oi = true ∧ oj.op.reads = false))

def anyC (T : Tab) (F : CallF) (ops : Array Oper) (aops : List AOper) (K : List Value → St → Prop) : Nat → Array Bool → List Value → St → Prop
  | 0, listed, l, s => Region.ready .any ops listed = [] ∧ K l s
  | fuel + 1, listed, l, s => (Region.ready .any ops listed = [] → K l s) ∧
    ∀ i ∈ Region.ready .any ops listed, ∀ o, aops[i]? = some o → oneOp T F o l s fun l s => (∀ k ok, listed.getD k false = true → aops[k]? = some ok → Win (ancs ops.toList []) aops k i → Chk ok l s) ∧ anyC T F ops aops K fuel (listed.setIfInBounds i true) l s

theorem anyC_order {ops : Array Oper} {aops : List AOper} {K : List Value → St → Prop} : ∀ (fuel : Nat) (listed : Array Bool) (l : List Value) (s : St), anyC T F ops aops K fuel listed l s → anyOrder T F ops aops K fuel listed l s
  | 0, _, _, _, h => h
  | fuel + 1, listed, l, s, h => ⟨h.1, fun i hi o ho => oneOp_mono (fun l s h => anyC_order fuel _ l s h.2) (h.2 i hi o ho)⟩

theorem lget_lset_at (v : Value) : ∀ (l : List Value) (d : Nat), d < l.length → lget (lset l d v) d = v
  | [], d, h => by simp at h
  | x :: l, 0, _ => rfl
  | x :: l, d + 1, h => by simp only [lset, lget]; exact lget_lset_at v l d (by simpa using h)
theorem lset_len (v : Value) : ∀ (l : List Value) (d : Nat), (lset l d v).length = l.length
  | [], _ => rfl
  | x :: l, 0 => rfl
  | x :: l, d + 1 => by simp only [lset, List.length_cons, lset_len v l d]
theorem putL_length (l : List Value) (d : Option Nat) (v : Value) : (putL l d v).length = l.length := by
  cases d with
  | none => rfl
  | some d => exact lset_len v l d

theorem Chk.put {o x : AOper} (h : Unseen x o) (l : List Value) (v : Value) (s : St) : Chk o (putL l x.dst v) s ↔ Chk o l s := by
  obtain ⟨e1, e2⟩ := put_other (o := o) (d := x.dst) (fun d hd => (h d hd).1) l v
  unfold Chk
  rw [e1, e2]
  cases hx : x.dst with
  | none => exact Iff.rfl
  | some d =>
    have : ∀ e, o.dst = some e → lget (putL l (some d) v) e = lget l e := fun e he => lget_lset v l d e fun hh => (h d hx).2 (by rw [he, hh])
    constructor
    · intro k hw
      obtain ⟨e, h1, h2⟩ := k hw
      exact ⟨e, h1, by rw [this e h1] at h2; exact h2⟩
    · intro k hw
      obtain ⟨e, h1, h2⟩ := k hw
      exact ⟨e, h1, by rw [this e h1]; exact h2⟩

theorem isLoad_reads {o : AOper} (h : isLoad o = true) : o.op.reads = true ∧ o.op.pure = false := by
  unfold isLoad at h
  split at h
  · rename_i hq; rw [hq]; exact ⟨rfl, rfl⟩
  · cases h

theorem Win.noread {m : List Nat} {aops : List AOper} {i j : Nat} (h : Win m aops i j) {o : AOper} (ho : aops[j]? = some o) (hr : o.op.reads = true) : False := by
  obtain ⟨_, aj, _, h2, _, _, h5, _⟩ := h
  rw [ho] at h2
  cases h2
  rw [hr] at h5
  cases h5

/-- what holds of a region whose reads are asked for again -/
structure Stat (ops : Array Oper) (aops : List AOper) (N : Nat) : Prop where
  free : ∀ (i j : Nat) (oj : Oper) (ai aj : AOper), i < j → ops[j]? = some oj → aops[i]? = some ai → aops[j]? = some aj → ((ancs ops.toList []).getD j 0).testBit i = false → FreeOf2 ai aj
  self : ∀ (k : Nat) (ok : AOper), aops[k]? = some ok → isLoad ok = true → ∀ d, ok.dst = some d → d ∉ looks ok
  safe : ∀ (k j : Nat) (ok oj : AOper), k < j → aops[k]? = some ok → aops[j]? = some oj → isLoad ok = true → Unseen oj ok
  dst : ∀ (k : Nat) (ok : AOper), aops[k]? = some ok → isLoad ok = true → ∀ d, ok.dst = some d → d < N
  same : ∀ k : Nat, aops[k]?.isSome = ops[k]?.isSome

/-- two operations change places, what is asked for with them -/
theorem oneOp_swapC {oi oj : AOper} {N : Nat} (hf : FreeOf2 oi oj) (hself : isLoad oi = true → ∀ d, oi.dst = some d → d ∉ looks oi) (hdst : isLoad oi = true → ∀ d, oi.dst = some d → d < N) {l : List Value} (hl : l.length = N) {s : St}
    {A A' B B' : List Value → St → Prop} {C : List Value → St → Prop}
    (hAr : oi.op.reads = true → ∀ l s, A' l s) (hBr : oj.op.reads = true → ∀ l s, B' l s)
    (hA : oi.op.reads = false → oj.op.pure = true → ∀ l v s, A l s → A' (putL l oj.dst v) s)
    (hB : ∀ l v s, l.length = N → B (putL l oi.dst v) s → B' l s) (hBc : isLoad oi = true → oj.op.reads = false → ∀ l s, B l s → Chk oi l s)
    (h : oneOp T F oi l s fun l s => A l s ∧ oneOp T F oj l s fun l s => B l s ∧ C l s) :
    oneOp T F oj l s fun l s => B' l s ∧ oneOp T F oi l s fun l s => A' l s ∧ C l s := by
  obtain ⟨hu, hji, hs⟩ := hf
  have h1 : ∀ d, oi.dst = some d → d ∉ looks oj := fun d hd => (hu d hd).1
  have h2 : ∀ d, oi.dst = some d → oj.dst ≠ some d := fun d hd => (hu d hd).2
  have pr : ∀ {q : AOp}, q.pure = true → q.reads = true := fun {q} hq => by cases q <;> simp [AOp.pure] at hq; rfl
  have comm : ∀ u v, putL (putL l oi.dst v) oj.dst u = putL (putL l oj.dst u) oi.dst v := fun u v => putL_comm h2 l v u
  -- what reads reads the same where nothing but the other's slot is another
  have yi : ∀ (u : Value) (s1 s2 : St) (v : Value), (oi.op.pure = true ∨ s1 = s2) → (YV oi (putL l oj.dst u) s1 v ↔ YV oi l s2 v) := fun u s1 s2 v hp => by
    obtain ⟨e1, e2⟩ := put_other hji l u
    unfold YV
    rw [e1, e2]
    rcases hp with hp | rfl
    · cases hq : oi.op <;> rw [hq] at hp <;> simp [AOp.pure] at hp; rfl
    · rfl
  have yj : ∀ (u : Value) (s1 s2 : St) (v : Value), (oj.op.pure = true ∨ s1 = s2) → (YV oj (putL l oi.dst u) s1 v ↔ YV oj l s2 v) := fun u s1 s2 v hp => by
    obtain ⟨e1, e2⟩ := put_other h1 l u
    unfold YV
    rw [e1, e2]
    rcases hp with hp | rfl
    · cases hq : oj.op <;> rw [hq] at hp <;> simp [AOp.pure] at hp; rfl
    · rfl
  by_cases hir : oi.op.reads = true
  · rw [oneOp_reads hir] at h
    obtain ⟨v, hv, _, hj⟩ := h
    -- it reads the same behind the other one
    have again : ∀ (u : Value) (s1 : St), (B (putL (putL l oi.dst v) oj.dst u) s1) → (oi.op.pure = true ∨ s1 = s ∨ (isLoad oi = true ∧ oj.op.reads = false)) → YV oi (putL l oj.dst u) s1 v := fun u s1 hb hh => by
      rcases hh with hh | hh | hh
      · exact (yi u s1 s v (.inl hh)).2 hv
      · exact (yi u s1 s v (.inr hh)).2 hv
      · have hc := hBc hh.1 hh.2 _ _ hb
        rw [comm] at hc
        obtain ⟨e1, e2⟩ := put_other (hself hh.1) (putL l oj.dst u) v
        obtain ⟨e3, e4⟩ := put_other hji l u
        rcases hv with ⟨w1, w2⟩ | ⟨w1, w2⟩
        · left
          refine ⟨by rw [e4]; exact w1, ?_⟩
          obtain ⟨d, hd, hval⟩ := hc (by rw [e2, e4]; exact w1)
          rw [e1, hd] at hval
          have : lget (putL (putL l oj.dst u) (some d) v) d = v := lget_lset_at v _ d (by rw [putL_length, hl]; exact hdst hh.1 d hd)
          rw [this] at hval
          exact hval
        · exact .inr ⟨by rw [e4]; exact w1, w2⟩
    obtain ⟨e1, e2⟩ := put_other h1 l v
    unfold oneOp at hj ⊢
    rw [e1, e2] at hj
    have fin : ∀ (u : Value) (s1 : St), (oi.op.pure = true ∨ s1 = s ∨ (isLoad oi = true ∧ oj.op.reads = false)) → B (putL (putL l oi.dst v) oj.dst u) s1 ∧ C (putL (putL l oi.dst v) oj.dst u) s1 → B' (putL l oj.dst u) s1 ∧ oneOp T F oi (putL l oj.dst u) s1 fun l s => A' l s ∧ C l s := fun u s1 hh hc => by
      refine ⟨hB _ v s1 (by rw [putL_length]; exact hl) (by rw [← comm]; exact hc.1), ?_⟩
      rw [oneOp_reads hir]
      exact ⟨v, again u s1 hc.1 hh, hAr hir _ _, by rw [← comm]; exact hc.2⟩
    have hcase : oi.op.pure = true ∨ oj.op.reads = true ∨ (isLoad oi = true ∧ oj.op.reads = false) := by
      rcases hs with hs | hs
      · simp only [AOp.swap, Bool.or_eq_true, Bool.and_eq_true] at hs
        rcases hs with (hs | hs) | hs
        · exact .inl hs
        · exact .inr (.inl (pr hs))
        · exact .inr (.inl hs.2)
      · exact .inr (.inr hs)
    split
    · rename_i hw
      rw [if_pos hw] at hj
      rcases hcase with hp | hr | hd
      · exact Out.all_mono (fun r => fin _ _ (.inl hp)) hj
      · -- both read: the heap is as it was
        have hj' : oneOp T F oj (putL l oi.dst v) s fun l1 s1 => B l1 s1 ∧ C l1 s1 := by
          unfold oneOp
          rw [e1, e2, if_pos hw]
          exact hj
        rw [oneOp_reads hr] at hj'
        obtain ⟨u, hu', hc⟩ := hj'
        have hu2 := (yj v s s u (.inr rfl)).1 hu'
        have : oneOp T F oj l s fun l s => B' l s ∧ oneOp T F oi l s fun l s => A' l s ∧ C l s := by
          rw [oneOp_reads hr]
          exact ⟨u, hu2, fin u s (.inr (.inl rfl)) hc⟩
        unfold oneOp at this
        rw [if_pos hw] at this
        exact this
      · exact Out.all_mono (fun r => fin _ _ (.inr (.inr hd))) hj
    · rename_i hw
      rw [if_neg hw] at hj
      exact fin undef s (.inr (.inl rfl)) hj
  · -- it turns the heap: the other one is pure
    have hjp : oj.op.pure = true := by
      rcases hs with hs | hs
      · simp only [AOp.swap, Bool.or_eq_true, Bool.and_eq_true] at hs
        rcases hs with (hs | hs) | hs
        · exact absurd (pr hs) hir
        · exact hs
        · exact absurd hs.1 hir
      · exact absurd (isLoad_reads hs.1).1 hir
    have hir' : oi.op.reads = false := by simpa using hir
    rw [oneOp_reads (pr hjp)]
    have step : ∀ (v : Value) (s1 : St), (A (putL l oi.dst v) s1 ∧ oneOp T F oj (putL l oi.dst v) s1 fun l s => B l s ∧ C l s) → ∃ u, YV oj l s u ∧ A' (putL (putL l oj.dst u) oi.dst v) s1 ∧ C (putL (putL l oj.dst u) oi.dst v) s1 := fun v s1 hh => by
      obtain ⟨u, hu', hc⟩ := (oneOp_reads (pr hjp)).1 hh.2
      refine ⟨u, (yj v s1 s u (.inl hjp)).1 hu', ?_⟩
      rw [← comm]
      exact ⟨hA hir' hjp _ u s1 hh.1, hc.2⟩
    unfold oneOp at h
    by_cases hw : wantedL oi l = true
    · rw [if_pos hw] at h
      have h' := Out.all_mono (fun r hr => step r.1 r.2 hr) h
      obtain ⟨_, u, hu', _⟩ := Out.all_some h'
      refine ⟨u, hu', hBr (pr hjp) _ _, ?_⟩
      obtain ⟨e1, e2⟩ := put_other hji l u
      unfold oneOp
      rw [e1, e2, if_pos hw]
      refine Out.all_mono (fun r hr => ?_) h'
      obtain ⟨u', hu2, hc⟩ := hr
      rw [YV.unique hu' hu2]
      exact hc
    · rw [if_neg hw] at h
      obtain ⟨u, hu', hc⟩ := step undef s h
      refine ⟨u, hu', hBr (pr hjp) _ _, ?_⟩
      obtain ⟨e1, e2⟩ := put_other hji l u
      unfold oneOp
      rw [e2, if_neg hw]
      exact hc

theorem any_firstC {ops : Array Oper} {aops : List AOper} {N : Nat} (S : Stat ops aops N) {K : List Value → St → Prop} {i : Nat} {oi : AOper} (hi : aops[i]? = some oi) : ∀ (fuel : Nat) (listed : Array Bool) (l : List Value) (s : St), Closed ops listed → l.length = N →
    (∀ j, j < i → listed.getD j true = true) → i ∈ Region.ready .any ops listed →
    (oneOp T F oi l s fun l s => (∀ k ok, listed.getD k false = true → aops[k]? = some ok → Win (ancs ops.toList []) aops k i → Chk ok l s) ∧ anyC T F ops aops K fuel (listed.setIfInBounds i true) l s) → anyC T F ops aops K (fuel + 1) listed l s := by
  intro fuel
  induction fuel with
  | zero =>
    intro listed l s _ _ _ hr H
    refine ⟨fun h => (by rw [h] at hr; cases hr), fun j hj o ho => ?_⟩
    by_cases hji : j = i
    · subst hji; rw [hi] at ho; cases ho; exact H
    · have h1 := ready_mono hj hji
      have : ∃ l s, anyC T F ops aops K 0 (listed.setIfInBounds i true) l s := by
        unfold oneOp at H
        split at H
        · obtain ⟨r, hr⟩ := Out.all_some H; exact ⟨_, _, hr.2⟩
        · exact ⟨_, _, H.2⟩
      obtain ⟨_, _, h2, _⟩ := this
      rw [h2] at h1
      cases h1
  | succ fuel ih =>
    intro listed l s hcl hlen hmin hr H
    refine ⟨fun h => (by rw [h] at hr; cases hr), fun j hj o ho => ?_⟩
    by_cases hji : j = i
    · subst hji; rw [hi] at ho; cases ho; exact H
    · obtain ⟨hjun, oj, hoj, hall⟩ := mem_ready.1 hj
      obtain ⟨hiun, _⟩ := mem_ready.1 hr
      have hij : i < j := by
        rcases Nat.lt_or_ge i j with h' | h'
        · exact h'
        · have := hmin j (by omega)
          rw [hjun] at this
          cases this
      have wait : ∀ k ok', ops[k]? = some ok' → (∀ e ∈ ok'.after, Region.binds .any e = true → listed.getD e.on false = true) → ((ancs ops.toList []).getD k 0).testBit i = false := fun k ok' hk hal => by
        cases hb : ((ancs ops.toList []).getD k 0).testBit i with
        | false => rfl
        | true =>
          have h1 := getD_tf (ancs_listed hcl ops.toList [] (fun j => by simp) (fun k hk => absurd hk (by simp)) k ok' hk hal i hb)
          rw [hiun] at h1
          cases h1
      have hfree := S.free i j oj oi o hij hoj hi ho (wait j oj hoj hall)
      have hjr := ready_mono hj hji
      have hlisted : ∀ k, (listed.setIfInBounds i true).getD k false = true → k ≠ i → listed.getD k false = true := fun k hk hne => by rwa [getD_set_ne false (Ne.symm hne)] at hk
      -- nobody that is listed looks at the slot of the one that isn't
      have unseen : ∀ k ok, listed.getD k false = true → aops[k]? = some ok → isLoad ok = true → Unseen oi ok := fun k ok hk hok hld => by
        rcases Nat.lt_trichotomy k i with h' | h' | h'
        · exact S.safe k i ok oi h' hok hi hld
        · subst h'
          have := getD_tf hk
          rw [hiun] at this
          cases this
        · have : ops[k]?.isSome = true := by rw [← S.same k, hok]; rfl
          obtain ⟨ok', hok'⟩ := Option.isSome_iff_exists.1 this
          exact (S.free i k ok' oi ok h' hok' hi hok (wait k ok' hok' fun e he hb => hcl k ok' hok' hk e he hb)).1
      have H' : oneOp T F oi l s fun l s => (∀ k ok, listed.getD k false = true → aops[k]? = some ok → Win (ancs ops.toList []) aops k i → Chk ok l s) ∧ oneOp T F o l s fun l s => (∀ k ok, (listed.setIfInBounds i true).getD k false = true → aops[k]? = some ok → Win (ancs ops.toList []) aops k j → Chk ok l s) ∧ anyC T F ops aops K fuel ((listed.setIfInBounds i true).setIfInBounds j true) l s :=
        oneOp_mono (fun l s h => ⟨h.1, h.2.2 j hjr o ho⟩) H
      have his : i < listed.size := by
        rcases Nat.lt_or_ge i listed.size with h' | h'
        · exact h'
        · simp [Array.getElem?_eq_none h'] at hiun
      have hsw := oneOp_swapC (N := N) (A' := fun l s => ∀ k ok, (listed.setIfInBounds j true).getD k false = true → aops[k]? = some ok → Win (ancs ops.toList []) aops k i → Chk ok l s) (B' := fun l s => ∀ k ok, listed.getD k false = true → aops[k]? = some ok → Win (ancs ops.toList []) aops k j → Chk ok l s)
        hfree (fun hld => S.self i oi hi hld) (fun hld d hd => S.dst i oi hi hld d hd) hlen
        (fun hrd l s k ok _ _ hw => (hw.noread hi hrd).elim) (fun hrd l s k ok _ _ hw => (hw.noread ho hrd).elim)
        (fun _ hjp l v s hA k ok hk hok hw => by
          have hkj : k ≠ j := fun e => by
            subst e
            obtain ⟨ai, aj, w1, w2, w3, w4, w5, w6⟩ := hw
            omega
          have hki : k < i := by obtain ⟨_, _, _, _, w3, _⟩ := hw; exact w3
          have hld : isLoad ok = true := by
            obtain ⟨ai, aj, w1, w2, w3, w4, w5, w6⟩ := hw
            rw [hok] at w1
            cases w1
            exact w4
          refine (Chk.put (S.safe k j ok o (by omega) hok ho hld) l v s).2 (hA k ok ?_ hok hw)
          rwa [getD_set_ne false (Ne.symm hkj)] at hk)
        (fun l v s _ hB k ok hk hok hw => by
          have hld : isLoad ok = true := by
            obtain ⟨ai, aj, w1, w2, w3, w4, w5, w6⟩ := hw
            rw [hok] at w1
            cases w1
            exact w4
          have hne : i ≠ k := fun e => by
            subst e
            have := getD_tf hk
            rw [hiun] at this
            cases this
          refine (Chk.put (unseen k ok hk hok hld) l v s).1 (hB k ok ?_ hok hw)
          rw [getD_set_ne false hne]
          exact hk)
        (fun hld hnr l s hB => hB i oi (by simp [his]) hi ⟨oi, o, hi, ho, hij, hld, hnr, wait j oj hoj hall⟩)
        H'
      refine oneOp_mono (fun l' s' h => ⟨h.1, ?_⟩) (?_ : oneOp T F o l s fun l' s' => (∀ k ok, listed.getD k false = true → aops[k]? = some ok → Win (ancs ops.toList []) aops k j → Chk ok l' s') ∧ l'.length = N ∧ oneOp T F oi l' s' fun l s => (∀ k ok, (listed.setIfInBounds j true).getD k false = true → aops[k]? = some ok → Win (ancs ops.toList []) aops k i → Chk ok l s) ∧ anyC T F ops aops K fuel ((listed.setIfInBounds i true).setIfInBounds j true) l s)
      · refine ih (listed.setIfInBounds j true) l' s' (hcl.put hj) h.2.1 (fun k hk => ?_) (ready_mono hr (Ne.symm hji)) ?_
        · rw [getD_set_ne true (by omega)]; exact hmin k hk
        · rw [Array.setIfInBounds_comm _ _ hji]
          exact h.2.2
      · unfold oneOp at hsw ⊢
        split
        · rename_i hw
          rw [if_pos hw] at hsw
          exact Out.all_mono (fun r h => ⟨h.1, by rw [putL_length]; exact hlen, h.2⟩) hsw
        · rename_i hw
          rw [if_neg hw] at hsw
          exact ⟨hsw.1, by rw [putL_length]; exact hlen, hsw.2⟩

theorem same1_spec {v u : Value} {vs : List Value} {s : St} (h : rop .same1 (v :: vs) s = some u) : rop .load1 vs s = some v := by
  match vs, h with
  | [.pointer (some a)], h =>
    simp only [rop] at h ⊢
    cases hget : s.get a.block with
    | none => rw [hget] at h; cases h
    | some ob =>
      cases ob with
      | row cs g ro =>
        rw [hget] at h
        simp only at h ⊢
        cases hc : cs[a.off]? with
        | none => rw [hc] at h; cases h
        | some x =>
          rw [hc] at h
          simp only at h
          split at h
          · rename_i he; rw [cellEq_eq he]
          · cases h
      | _ => rw [hget] at h; cases h

theorem chk_run {o : AOper} (hld : isLoad o = true) {rest : List AOper} {l : List Value} {s : St} {K : List Value × St → Prop} (h : (runOps T F (chkOp o :: rest) l s).all K) : Chk o l s ∧ (runOps T F rest l s).all K := by
  unfold isLoad at hld
  split at hld
  · rename_i hop
    obtain ⟨d, hd⟩ := Option.isSome_iff_exists.1 hld
    simp only [chkOp, hd, runOps] at h
    have hwant : wantedL ⟨none, .r .same1, .t d :: o.args, o.guard⟩ l = wantedL o l := rfl
    rw [hwant] at h
    by_cases hw : wantedL o l = true
    · rw [if_pos hw, Out.all_bind] at h
      simp only [opStep, List.map_cons, Arg.ev] at h
      have key : ∀ vs : List Value, (match rop .same1 (lget l d :: vs) s with | some v => Out.ret (v, s) | none => Out.fail).all (fun a => (runOps T F rest (putL l none a.1) a.2).all K) → rop .load1 vs s = some (lget l d) ∧ (runOps T F rest l s).all K := fun vs hh => by
        cases hr : rop .same1 (lget l d :: vs) s with
        | none => rw [hr] at hh; exact hh.elim
        | some v =>
          rw [hr] at hh
          exact ⟨same1_spec hr, hh⟩
      obtain ⟨k1, k2⟩ := key _ h
      exact ⟨fun _ => ⟨d, hd, by rw [hop]; exact k1⟩, k2⟩
    · rw [if_neg hw] at h
      exact ⟨fun hh => absurd hh hw, h⟩
  · cases hld

theorem chks_run {rest : List AOper} {K : List Value × St → Prop} : ∀ (os : List AOper) (l : List Value) (s : St), (∀ o ∈ os, isLoad o = true) → (runOps T F (os.map chkOp ++ rest) l s).all K → (∀ o ∈ os, Chk o l s) ∧ (runOps T F rest l s).all K
  | [], l, s, _, h => ⟨fun o ho => (by cases ho), h⟩
  | o :: os, l, s, hld, h => by
    obtain ⟨h1, h2⟩ := chk_run (hld o (by simp)) h
    obtain ⟨h3, h4⟩ := chks_run os l s (fun o ho => hld o (by simp [ho])) h2
    refine ⟨fun x hx => ?_, h4⟩
    rcases List.mem_cons.1 hx with rfl | hx
    · exact h1
    · exact h3 x hx

/-- those that are asked for again behind number j -/
def winOps (m : List Nat) (aops : List AOper) (j : Nat) : List AOper := (List.range j).filterMap fun i => match aops[i]? with
  | some b => if isLoad b && !((m.getD j 0).testBit i) then some b else none
  | none => none

theorem chksOf_eq (m : List Nat) (aops : List AOper) (j : Nat) (a : AOper) : chksOf m aops j a = if a.op.reads then [] else (winOps m aops j).map chkOp := by
  unfold chksOf winOps
  split
  · rfl
  · rw [List.map_filterMap]
    congr 1
    funext i
    cases aops[i]? with
    | none => rfl
    | some b => simp only; split <;> rfl

theorem any_lexC {ops : Array Oper} {aops : List AOper} {N : Nat} (S : Stat ops aops N) {K : List Value × St → Prop} :
    ∀ (rest : List AOper) (k : Nat) (listed : Array Bool) (l : List Value) (s : St), Closed ops listed → l.length = N → (∀ j, rest[j]? = aops[k + j]?) → (∀ j, j < k → listed.getD j true = true) → Region.lexFrom .any ops rest.length k listed = true →
      (runOps T F (withChks (ancs ops.toList []) aops rest k) l s).all K → anyC T F ops aops (fun l s => K (l, s)) rest.length listed l s
  | [], k, listed, l, s, _, _, _, _, hB, h => ⟨by simpa [Region.lexFrom] using hB, h⟩
  | o :: rest, k, listed, l, s, hcl, hlen, hr, hlt, hB, h => by
    have h0 : aops[k]? = some o := by simpa using (hr 0).symm
    simp only [List.length_cons, Region.lexFrom, Bool.and_eq_true] at hB
    obtain ⟨⟨hrd, hf⟩, hB'⟩ := hB
    have hks : k < listed.size := by
      have := (mem_ready.1 (by simpa using hrd : k ∈ Region.ready .any ops listed)).1
      rcases Nat.lt_or_ge k listed.size with h' | h'
      · exact h'
      · simp [Array.getElem?_eq_none h'] at this
    have hkr : k ∈ Region.ready .any ops listed := by simpa using hrd
    have ih := fun l s hl => any_lexC S (K := K) rest (k + 1) (listed.setIfInBounds k true) l s (hcl.put hkr) hl
    have hr' : ∀ j, rest[j]? = aops[k + 1 + j]? := fun j => by have := hr (j + 1); simpa [Nat.add_assoc, Nat.add_comm 1 j] using this
    have hlt' : ∀ j, j < k + 1 → (listed.setIfInBounds k true).getD j true = true := fun j hj => by
      by_cases hjk : j = k
      · subst hjk; simp [hks]
      · rw [getD_set_ne true (Ne.symm hjk)]; exact hlt j (by omega)
    refine any_firstC S h0 rest.length listed l s hcl hlen hlt (by simpa using hrd) ?_
    simp only [withChks, runOps] at h
    have fin : ∀ l' s', l'.length = N → (runOps T F (chksOf (ancs ops.toList []) aops k o ++ withChks (ancs ops.toList []) aops rest (k + 1)) l' s').all K → (∀ j oj, listed.getD j false = true → aops[j]? = some oj → Win (ancs ops.toList []) aops j k → Chk oj l' s') ∧ anyC T F ops aops (fun l s => K (l, s)) rest.length (listed.setIfInBounds k true) l' s' := fun l' s' hl' hh => by
      rw [chksOf_eq] at hh
      split at hh
      · rename_i hrd
        exact ⟨fun j oj _ _ hw => (hw.noread h0 hrd).elim, ih l' s' hl' hr' hlt' hB' hh⟩
      · obtain ⟨h1, h2⟩ := chks_run (winOps (ancs ops.toList []) aops k) l' s' (fun x hx => by
          simp only [winOps, List.mem_filterMap] at hx
          obtain ⟨i, _, hi⟩ := hx
          split at hi
          · rename_i hc
            split at hi
            · rename_i hcond
              cases hi
              simp only [Bool.and_eq_true] at hcond
              exact hcond.1
            · cases hi
          · cases hi) hh
        refine ⟨fun j oj _ hoj hw => h1 oj ?_, ih l' s' hl' hr' hlt' hB' h2⟩
        obtain ⟨ai, aj, w1, w2, w3, w4, w5, w6⟩ := hw
        rw [hoj] at w1
        cases w1
        simp only [winOps, List.mem_filterMap]
        exact ⟨j, List.mem_range.2 w3, by rw [hoj]; simp [w4]; simpa using w6⟩
    unfold oneOp
    split
    · rename_i hw
      rw [if_pos hw, Out.all_bind] at h
      exact Out.all_mono (fun r hr0 => fin _ _ (by rw [putL_length]; exact hlen) hr0) h
    · rename_i hw
      rw [if_neg hw] at h
      exact fin _ _ (by rw [putL_length]; exact hlen) h

end

section
variable {P : Program} {B0 : Nat} {W0 : World} {T : Tab} {F : CallF} {μ0 : Nat → Spot} {n0 b : Nat} {fl : Bool}

theorem compOpers_get {ops : Array Oper} : ∀ {os : List Oper} {aops : List AOper}, compOpers P b fl ops os = some aops → aops.length = os.length ∧ ∀ (i : Nat) (o : Oper), os[i]? = some o → ∃ ao, aops[i]? = some ao ∧ compOper P b fl ops o = some ao
  | [], aops, h => by simp [compOpers] at h; subst h; exact ⟨rfl, fun i o hi => by simp at hi⟩
  | x :: os, aops, h => by
    simp only [compOpers, Option.bind_eq_some_iff, Option.map_eq_some_iff] at h
    obtain ⟨ax, h1, aos, h2, rfl⟩ := h
    obtain ⟨k1, k2⟩ := compOpers_get h2
    refine ⟨by simp [k1], fun i o hi => ?_⟩
    cases i with
    | zero => simp at hi; subst hi; exact ⟨ax, rfl, h1⟩
    | succ i => simpa using k2 i o (by simpa using hi)

theorem step_out {o : AOper} {l : List Value} {s : St} {C : List Value → St → Prop} (h : oneOp T F o l s C) (hw : wantedL o l = true) : (opStep T F o.op (o.args.map (Arg.ev l)) s).all fun r => C (putL l o.dst r.1) r.2 := by
  unfold oneOp at h
  rwa [if_pos hw] at h

/-- out of the second machine's any order the first one's -/
theorem any_sound (hF : FSound P F) (hT : TabOk P T) {ops : Array Oper} {aops : List AOper} (hc : compOpers P b fl ops ops.toList = some aops) {Q : Exit → Act → World → Prop} {K : List Value → St → Prop} (hQ : ∀ l s a w, K l s → Sim P B0 W0 μ0 n0 b fl l s a w → Q .normal a w) :
    ∀ (fuel : Nat) (listed : Array Bool) (l : List Value) (s : St) (a : Act) (w : World), Sim P B0 W0 μ0 n0 b fl l s a w → anyOrder T F ops aops K fuel listed l s → wpAny P .any ops Q fuel listed a w
  | 0, listed, l, s, a, w, hs, h => ⟨h.1, hQ l s a w h.2 hs⟩
  | fuel + 1, listed, l, s, a, w, hs, h => by
    refine ⟨fun h0 => hQ l s a w (h.1 h0) hs, fun i hi => ?_⟩
    obtain ⟨_, o, ho, _⟩ := mem_ready.1 hi
    obtain ⟨ao, h1, h2⟩ := (compOpers_get hc).2 i o (by simpa using ho)
    have hone := h.2 i hi ao h1
    have hw := oper_wanted h2 hs
    unfold wpOp
    simp only [ho]
    rw [hw]
    split
    · rename_i hwt
      refine .inl (oper_sound hF hT h2 hs (K := fun l s => anyOrder T F ops aops K fuel (listed.setIfInBounds i true) l s) (fun l s a w hk hs' => any_sound hF hT hc hQ fuel _ l s a w hs' hk) ?_)
      exact step_out hone hwt
    · rename_i hwt
      unfold oneOp at hone
      rw [if_neg hwt] at hone
      exact any_sound hF hT hc hQ fuel _ _ s _ w (oper_skip h2 hs hwt) hone

theorem freeB_spec {x y : AOper} (h : freeB x y = true) : FreeOf x y := by
  simp only [freeB, Bool.and_eq_true] at h
  obtain ⟨⟨h1, h2⟩, h3⟩ := h
  refine ⟨fun d hd => ?_, fun d hd => ?_, fun d hd => ?_, h3⟩
  · rw [hd] at h1; simp at h1; exact h1.1
  · rw [hd] at h1; simp at h1; exact h1.2
  · rw [hd] at h2; simpa using h2

theorem swapsOk_spec {aops : List AOper} {ops : Array Oper} (h : swapsOk aops ops.toList = true) {i j : Nat} {oj : Oper} {ai aj : AOper} (hij : i < j) (hj : ops[j]? = some oj) (hai : aops[i]? = some ai) (haj : aops[j]? = some aj)
    (hno : ((ancs ops.toList []).getD j 0).testBit i = false) : FreeOf ai aj := by
  simp only [swapsOk, List.all_eq_true, List.mem_range] at h
  have hjl : j < ops.toList.length := by
    rcases Nat.lt_or_ge j ops.size with hh | hh
    · simpa using hh
    · rw [Array.getElem?_eq_none hh] at hj; cases hj
  have h1 := h j hjl
  rw [haj] at h1
  simp only [List.all_eq_true, List.mem_range] at h1
  have h2 := h1 i hij
  rw [hai, hno] at h2
  simp only [Bool.false_or] at h2
  exact freeB_spec h2

theorem sim_length {l : List Value} {s : St} {a : Act} {w : World} (h : Sim P B0 W0 μ0 n0 b fl l s a w) : b ≤ l.length := by
  obtain ⟨μ, _, _, _, h1, l0, k, rfl, h2, _⟩ := h
  have := h2.length
  simp only [Array.length_toList] at this
  rw [List.length_append]
  omega

theorem compOpers_dst {ops : Array Oper} {aops : List AOper} (hc : compOpers P b fl ops ops.toList = some aops) {N : Nat} (hb : b ≤ N) {k : Nat} {ok : AOper} (hk : aops[k]? = some ok) (hld : isLoad ok = true) {d : Nat} (hd : ok.dst = some d) : d < N := by
  obtain ⟨h1, h2⟩ := compOpers_get hc
  have hlt : k < ops.toList.length := by rw [← h1]; exact (List.getElem?_eq_some_iff.1 hk).1
  obtain ⟨ao, h3, h4⟩ := h2 k _ (List.getElem?_eq_getElem hlt)
  rw [hk] at h3
  cases h3
  unfold compOper at h4
  split at h4
  · split at h4
    · simp only [Option.bind_eq_some_iff, Option.map_eq_some_iff] at h4
      obtain ⟨_, _, _, _, rfl⟩ := h4
      simp [isLoad] at hld
    · cases h4
  · simp only [Option.bind_eq_some_iff] at h4
    obtain ⟨_, _, _, _, _, _, h5⟩ := h4
    split at h5
    · rename_i hdst
      cases h5
      simp only at hd
      rw [hd] at hdst
      simp only [dstIn, Nat.blt_eq] at hdst
      omega
    · cases h5

theorem unseenB_spec {x y : AOper} (h : unseenB x y = true) : Unseen x y := fun d hd => by
  unfold unseenB at h
  rw [hd] at h
  simpa using h

theorem swapsOk2_spec {aops : List AOper} {ops : Array Oper} (h : swapsOk2 aops ops.toList = true) (hlen : aops.length = ops.size) {N : Nat} (hd : ∀ (k : Nat) (ok : AOper), aops[k]? = some ok → isLoad ok = true → ∀ d, ok.dst = some d → d < N) : Stat ops aops N := by
  simp only [swapsOk2, List.all_eq_true, List.mem_range, Array.length_toList] at h
  have lt : ∀ (j : Nat) (a : AOper), aops[j]? = some a → j < ops.size := fun j a ha => by
    rw [← hlen]
    exact (List.getElem?_eq_some_iff.1 ha).1
  have two : ∀ (i j : Nat) (ai aj : AOper), i < j → aops[i]? = some ai → aops[j]? = some aj → ((((ancs ops.toList []).getD j 0).testBit i || freeB2 ai aj) && (!isLoad ai || unseenB aj ai)) = true := fun i j ai aj hij hai haj => by
    have h1 := h j (lt j aj haj)
    rw [haj] at h1
    simp only [Bool.and_eq_true, List.all_eq_true, List.mem_range] at h1
    have h2 := h1.2 i hij
    rw [hai] at h2
    simpa using h2
  refine ⟨fun i j oj ai aj hij hoj hai haj hno => ?_, fun k ok hk hld d hdd => ?_, fun k j ok oj hkj hk hj hld => ?_, hd, fun k => ?_⟩
  · have h2 := two i j ai aj hij hai haj
    rw [hno] at h2
    simp only [Bool.false_or, Bool.and_eq_true, freeB2] at h2
    obtain ⟨⟨⟨h3, h4⟩, h5⟩, _⟩ := h2
    refine ⟨unseenB_spec h3, fun d hdd => ?_, ?_⟩
    · rw [hdd] at h4; simpa using h4
    · simp only [Bool.or_eq_true, Bool.and_eq_true, Bool.not_eq_true'] at h5
      exact h5
  · have h1 := h k (lt k ok hk)
    rw [hk] at h1
    simp only [Bool.and_eq_true, selfB] at h1
    have h2 := h1.1
    rw [hld, hdd] at h2
    simpa using h2
  · have h2 := two k j ok oj hkj hk hj
    simp only [Bool.and_eq_true] at h2
    have h3 := h2.2
    rw [hld] at h3
    simp only [Bool.not_true, Bool.false_or] at h3
    exact unseenB_spec h3
  · rw [Bool.eq_iff_iff]
    simp only [Option.isSome_iff_exists]
    constructor
    · rintro ⟨a, ha⟩
      exact ⟨_, Array.getElem?_eq_getElem (lt k a ha)⟩
    · rintro ⟨a, ha⟩
      have : k < aops.length := by
        rw [hlen]
        rcases Nat.lt_or_ge k ops.size with hh | hh
        · exact hh
        · rw [Array.getElem?_eq_none hh] at ha; cases ha
      exact ⟨_, List.getElem?_eq_getElem this⟩

theorem region_sound (hm : P.follows .mixedOrders = true) (hF : FSound P F) (hT : TabOk P T) {id : Nat} {ops : Array Oper} {draw : Bool} {aops : List AOper} (hc : compRegion P b fl ops draw = .region aops) {Q : Exit → Act → World → Prop} {K : List Value × St → Prop}
    (hQ : ∀ l s a w, K (l, s) → Sim P B0 W0 μ0 n0 b fl l s a w → Q .normal a w) {l : List Value} {s : St} {a : Act} {w : World} (hs : Sim P B0 W0 μ0 n0 b fl l s a w) (h : (runOps T F aops l s).all K) : (Code.region id ops draw).wp P Q a w := by
  unfold compRegion at hc
  cases ho : compOpers P b fl ops ops.toList with
  | none => rw [ho] at hc; cases hc
  | some aops' =>
    rw [ho] at hc
    simp only at hc
    split at hc
    · rename_i hdd
      split at hc
      · rename_i hd
        injection hc with hc
        cases draw with
        | false => simp at hdd
        | true =>
        simp only [Bool.and_eq_true] at hd
        obtain ⟨hl, hsw⟩ := hd
        simp only [Region.lexB, Bool.and_eq_true] at hl
        have hlen := (compOpers_get ho).1
        simp only [Array.length_toList] at hlen
        refine wp_region_any hm ?_
        have hs' : Sim P B0 W0 μ0 n0 b fl l s a { w with drawn := w.drawn + 1 } := by
          obtain ⟨⟨μ, k1, k2, k3, k4⟩⟩ := hs
          exact ⟨⟨μ, k1, k2.drew _, k3, k4⟩⟩
        rw [← hlen]
        have hb := sim_length hs
        rw [← hc] at h
        refine any_sound hF hT ho (K := fun l s => K (l, s)) hQ _ _ l s a _ hs' (anyC_order _ _ l s (any_lexC (N := l.length) (swapsOk2_spec hsw hlen fun k ok hk hld d hd => compOpers_dst ho hb hk hld hd) aops' 0 _ l s (fun k ok hk hl => (by exfalso; rw [Array.getD_eq_getD_getElem?, Array.getElem?_replicate] at hl; split at hl <;> simp at hl)) rfl (by simp) (fun j hj => by omega) (by rw [hlen]; exact hl.2) h))
      · cases hc
    · rename_i hd
      cases hc
      cases draw with
      | false => exact wp_region_list (list_sound hF hT hQ _ _ l s a w ho hs h)
      | true =>
        simp only [Bool.true_and, Bool.not_eq_true', Bool.not_eq_false', Bool.not_eq_true, Bool.and_eq_true, Bool.not_eq_false] at hd
        obtain ⟨hl, hsw⟩ := hd
        simp only [Region.lexB, Bool.and_eq_true] at hl
        have hlen := (compOpers_get ho).1
        simp only [Array.length_toList] at hlen
        refine wp_region_any hm ?_
        have hs' : Sim P B0 W0 μ0 n0 b fl l s a { w with drawn := w.drawn + 1 } := by
          obtain ⟨⟨μ, k1, k2, k3, k4⟩⟩ := hs
          exact ⟨⟨μ, k1, k2.drew _, k3, k4⟩⟩
        rw [← hlen]
        refine any_sound hF hT ho (K := fun l s => K (l, s)) hQ _ _ l s a _ hs' (any_lex (fun i j oj ai aj hij hj hai haj hno => swapsOk_spec hsw hij hj hai haj hno) aops 0 _ l s (fun k ok hk hl => (by exfalso; rw [Array.getD_eq_getD_getElem?, Array.getElem?_replicate] at hl; split at hl <;> simp at hl)) (by simp) (fun j hj => by omega) (by rw [hlen]; exact hl.2) h)

end
end Go.Am
