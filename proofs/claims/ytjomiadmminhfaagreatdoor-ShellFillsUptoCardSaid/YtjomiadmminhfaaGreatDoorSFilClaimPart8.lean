/-
  More equations of symbolic runs: tests that part the run where they are made, aggregates, slices.
-/
import Derived.Test.YtjomiadmminhfaaGreatDoorSFilClaimPart7
set_option linter.unusedSimpArgs false
set_option linter.unusedVariables false
set_option maxRecDepth 10000
namespace Go.Am

section
variable (K : Value → Prop)

theorem ite_bool (p : Prop) [Decidable p] : K (.bool (decide p)) = if p then K (.bool true) else K (.bool false) := by
  by_cases h : p <;> simp [h]
theorem ite_boolN (p : Prop) [Decidable p] : K (.bool !(decide p)) = if p then K (.bool false) else K (.bool true) := by
  by_cases h : p <;> simp [h]

theorem pj_eqS (a b : ByteArray) : popK (.bin .eql) [.string a, .string b] K = if a = b then K (.bool true) else K (.bool false) := (pk_eqS a b).trans (ite_bool K _)
theorem pj_neqS (a b : ByteArray) : popK (.bin .neq) [.string a, .string b] K = if a = b then K (.bool false) else K (.bool true) := (pk_neqS a b).trans (ite_boolN K _)
theorem pj_eqI (k : IntKind) (a b : Int) : popK (.bin .eql) [.int k a, .int k b] K = if a = b then K (.bool true) else K (.bool false) := (pk_eqI k a b).trans (ite_bool K _)
theorem pj_neqI (k : IntKind) (a b : Int) : popK (.bin .neq) [.int k a, .int k b] K = if a = b then K (.bool false) else K (.bool true) := (pk_neqI k a b).trans (ite_boolN K _)
theorem pj_lssI (k : IntKind) (a b : Int) : popK (.bin .lss) [.int k a, .int k b] K = if a < b then K (.bool true) else K (.bool false) := (pk_lssI k a b).trans (ite_bool K _)
theorem pj_leqI (k : IntKind) (a b : Int) : popK (.bin .leq) [.int k a, .int k b] K = if a ≤ b then K (.bool true) else K (.bool false) := (pk_leqI k a b).trans (ite_bool K _)
theorem pj_gtrI (k : IntKind) (a b : Int) : popK (.bin .gtr) [.int k a, .int k b] K = if b < a then K (.bool true) else K (.bool false) := (pk_gtrI k a b).trans (ite_bool K _)
theorem pj_geqI (k : IntKind) (a b : Int) : popK (.bin .geq) [.int k a, .int k b] K = if b ≤ a then K (.bool true) else K (.bool false) := (pk_geqI k a b).trans (ite_bool K _)

theorem pk_field (off n : Nat) (cs : Array Value) : popK (.field false off n) [.agg cs] K = nthK cs.toList off K := by
  simp only [popK, pop, nthK]
  cases cs.toList[off]? <;> rfl
theorem pk_mkFunc (f : Fn) (n : Nat) (vs : List Value) : popK (.mkFunc f n) vs K = K (.func f (vs.take n).toArray (vs.drop n).toArray) := of_eq_true (eq_self _)
end

/-! ### simp looks at what a form stands on, never into what comes behind it (the first hypothesis is there so that simp takes the law even where nothing turns) -/
def cgT : Nat := 0
def cgU : Nat := 0
theorem cgT_eq : cgT = cgU := of_eq_true (eq_self 0)
@[congr] theorem nthK_cg {cs cs' : List Value} {o o' : Nat} {K : Value → Prop} {t0 : Nat} (h0 : cgT = t0) (h1 : cs = cs') (h2 : o = o') : nthK cs o K = nthK cs' o' K := by rw [h1, h2]
@[congr] theorem getK_cg {o o' : Option AObj} {K : AObj → Prop} {t0 : Nat} (h0 : cgT = t0) (h : o = o') : getK o K = getK o' K := by rw [h]
@[congr] theorem rowK_cg {o o' : AObj} {K : List Value → Nat → Bool → Prop} {t0 : Nat} (h0 : cgT = t0) (h : o = o') : rowK o K = rowK o' K := by rw [h]
@[congr] theorem mapK_cg {o o' : AObj} {K : List (Value × Value × Nat) → Nat → Prop} {t0 : Nat} (h0 : cgT = t0) (h : o = o') : mapK o K = mapK o' K := by rw [h]
@[congr] theorem lookK_cg {r r' : Option (Option (Nat × Value))} {z : Value} {b : Bool} {K : Value → Prop} {t0 : Nat} (h0 : cgT = t0) (h : r = r') : lookK r z b K = lookK r' z b K := by rw [h]
@[congr] theorem setK_cg {r r' : Option (Option (Nat × Value))} {k v : Value} {es : List (Value × Value × Nat)} {c : Nat} {K : List (Value × Value × Nat) → Nat → Prop} {t0 : Nat} (h0 : cgT = t0) (h : r = r') : setK r k v es c K = setK r' k v es c K := by rw [h]
@[congr] theorem getE_cg {e : Env} {n n' : Nat} {K : Value → Prop} {t0 : Nat} (h0 : cgT = t0) (h : n = n') : getE e n K = getE e n' K := by rw [h]
@[congr] theorem getU_cg {e : Env} {n n' : Nat} {K : Value → Prop} {t0 : Nat} (h0 : cgT = t0) (h : n = n') : getU e n K = getU e n' K := by rw [h]
@[congr] theorem argE_cg {e : Env} {a a' : Arg} {K : Value → Prop} {t0 : Nat} (h0 : cgT = t0) (h : a = a') : argE e a K = argE e a' K := by rw [h]
@[congr] theorem argsE_cg {e : Env} {as as' : List Arg} {K : List Value → Prop} {t0 : Nat} (h0 : cgT = t0) (h : as = as') : argsE e as K = argsE e as' K := by rw [h]
@[congr] theorem popK_cg {o : POp} {vs vs' : List Value} {K : Value → Prop} {t0 : Nat} (h0 : cgT = t0) (h : vs = vs') : popK o vs K = popK o vs' K := by rw [h]
@[congr] theorem ropK_cg {o : ROp} {vs vs' : List Value} {s s' : St} {K : Value → Prop} {t0 : Nat} (h0 : cgT = t0) (h : vs = vs') (h2 : s = s') : ropK o vs s K = ropK o vs' s' K := by rw [h, h2]
@[congr] theorem wopK_cg {o : WOp} {vs vs' : List Value} {s s' : St} {K : Value → St → Prop} {t0 : Nat} (h0 : cgT = t0) (h : vs = vs') (h2 : s = s') : wopK o vs s K = wopK o vs' s' K := by rw [h, h2]
@[congr] theorem callK_cg {F : CallF} {f : FuncId} {vs vs' : List Value} {s s' : St} {K : Value → St → Prop} {t0 : Nat} (h0 : cgT = t0) (h : vs = vs') (h2 : s = s') : callK F f vs s K = callK F f vs' s' K := by rw [h, h2]
@[congr] theorem nextK_cg {b : Bool} {vs vs' : List Value} {s s' : St} {K : Value → St → Prop} {t0 : Nat} (h0 : cgT = t0) (h : vs = vs') (h2 : s = s') : nextK b vs s K = nextK b vs' s' K := by rw [h, h2]
@[congr] theorem opK_cg {T : Tab} {F : CallF} {o : AOp} {vs vs' : List Value} {s s' : St} {K : Value → St → Prop} {t0 : Nat} (h0 : cgT = t0) (h : vs = vs') (h2 : s = s') : opK T F o vs s K = opK T F o vs' s' K := by rw [h, h2]
@[congr] theorem opE_cg {T : Tab} {F : CallF} {o : AOper} {e : Env} {s s' : St} {K : Value → St → Prop} {t0 : Nat} (h0 : cgT = t0) (h : s = s') : opE T F o e s K = opE T F o e s' K := by rw [h]
@[congr] theorem condK_cg {v v' : Value} {A B : Prop} {t0 : Nat} (h0 : cgT = t0) (h : v = v') : condK v A B = condK v' A B := by rw [h]
@[congr] theorem grpJ_cg {v v' : Value} {w : Bool} {A B : Prop} {t0 : Nat} (h0 : cgT = t0) (h : v = v') : grpJ v w A B = grpJ v' w A B := by rw [h]
@[congr] theorem grpsE_cg {T : Tab} {F : CallF} {gs : List Grp} {e : Env} {s s' : St} {K : Env → St → Prop} {t0 : Nat} (h0 : cgT = t0) (h : s = s') : grpsE T F gs e s K = grpsE T F gs e s' K := by rw [h]
@[congr] theorem listE_cg {T : Tab} {F : CallF} {os : List AOper} {e : Env} {s s' : St} {K : Env → St → Prop} {t0 : Nat} (h0 : cgT = t0) (h : s = s') : listE T F os e s K = listE T F os e s' K := by rw [h]
@[congr] theorem sx_cg {T : Tab} {F : CallF} {m nt : Nat} {c : GC} {e : Env} {s s' : St} {N : Env → St → Prop} {E : Nat → Env → St → Prop} {R : Env → St → Prop} {t0 : Nat} (h0 : cgT = t0) (h : s = s') : sx T F m nt c e s N E R = sx T F m nt c e s' N E R := by rw [h]
@[congr] theorem Runs_cg {T : Tab} {F : CallF} {m nt : Nat} {c : AC} {e : Env} {s s' : St} {N : Env → St → Prop} {E : Nat → Env → St → Prop} {R : Env → St → Prop} {t0 : Nat} (h0 : cgT = t0) (h : s = s') : Runs T F m nt c e s N E R = Runs T F m nt c e s' N E R := by rw [h]
@[congr] theorem resP_cg {e : Env} {s s' : St} {rs : List (Nat × Nat)} {Q : Value → St → Prop} {t0 : Nat} (h0 : cgT = t0) (h : s = s') : resP e s rs Q = resP e s' rs Q := by rw [h]

theorem cast_zero : ((0 : Nat) : Int) = 0 := rfl
theorem cast_one : ((1 : Nat) : Int) = 1 := rfl

theorem iteI {c A B : Prop} [Decidable c] (h1 : c → A) (h2 : ¬ c → B) : if c then A else B := by
  by_cases h : c
  · rw [if_pos h]; exact h1 h
  · rw [if_neg h]; exact h2 h
theorem iteT {c A B : Prop} [Decidable c] (h : c) (h1 : A) : if c then A else B := by rw [if_pos h]; exact h1
theorem iteF {c A B : Prop} [Decidable c] (h : ¬ c) (h1 : B) : if c then A else B := by rw [if_neg h]; exact h1

section
variable {s : St} {W : Value → St → Prop}
theorem wk_boxA (n : Nat) (l : List Value) : wopK (.box n) [.agg l.toArray] s W = (l.length = n ∧ W (.pointer (some ⟨s.next, 0, none⟩)) (s.new (.row l 0 false))) := by
  rw [wk_box]
  rfl
theorem wk_strToBytes (b : ByteArray) : wopK .strToBytes [.string b] s W = W (.slice (some ⟨s.next, 0, none⟩) b.size b.size) (s.new (.row (b.data.toList.map fun c => .int .u8 c.toNat) 1 false)) := of_eq_true (eq_self _)
end
end Go.Am
