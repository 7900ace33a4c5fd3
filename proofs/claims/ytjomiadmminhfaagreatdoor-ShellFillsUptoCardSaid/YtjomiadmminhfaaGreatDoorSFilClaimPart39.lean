/-
  From a run to a row: a law that returns true and leaves its arguments as they read.
-/
import Derived.Test.YtjomiadmminhfaaGreatDoorSFilClaimPart7
import Derived.ChangeSame
import Derived.WideKeyArgs
import Derived.RowKit
import Derived.ChangeArms
import Derived.OpenShut
import Derived.ChangeMaps5
set_option linter.unusedSimpArgs false
set_option linter.unusedVariables false
set_option maxRecDepth 10000
namespace Go.Am
open Go.RowKit (Below)
open Go.RowKit Go.ChangeShapes Go.WideShapes

section
variable {H : Type} {enc : TypeId × Value → H} {P : Program}

theorem trodAll_stays {W W' : World} {sp : Nat → Bool} (hl : laidOutB P = true) : ∀ (ts : List TypeId) (vs : List Value) (ds : List (DataW H)) (ps : List MemPlace), (ts.all fun t => P.readableRec t && decide (t < P.types.size)) = true →
    DataW.TrodAll enc P W 0 (fun _ => true) true ts vs ds ps → (∀ p ∈ ps, W.sameAt W' p) → (∀ p ∈ ps, sp p.block = true) → DataW.TrodAll enc P W' 0 sp true ts vs ds ps
  | [], vs, ds, ps, _, h, _, _ => by
    obtain ⟨rfl, rfl, rfl⟩ := trodAll_nil h
    rfl
  | t :: ts, vs, ds, ps, hr, h, hs, hp => by
    simp only [List.all_cons, Bool.and_eq_true, decide_eq_true_eq] at hr
    obtain ⟨v, vs1, d, ds1, a, b, rfl, rfl, rfl, h1, h2⟩ := trodAll_cons h
    exact ⟨a, b, WideElems.Trod_stays hl hr.1.1 hr.1.2 h1 (fun p hh => hs p (List.mem_append_left _ hh)) (fun p hh => hp p (List.mem_append_left _ hh)),
      trodAll_stays hl ts vs1 ds1 b hr.2 h2 (fun p hh => hs p (List.mem_append_right _ hh)) (fun p hh => hp p (List.mem_append_right _ hh)), rfl⟩

theorem post_true {f : Func} {s : ChangeSpec} {apart fresh handsOn again : Bool} {W W' : World} {args : Array Value} {ds : List (DataW H)} {gs : List (DataW H)} {before : List MemPlace} {tb : TypeId} (hl : laidOutB P = true) (hread : (f.params.toList.all fun t => P.readableRec t && decide (t < P.types.size)) = true)
    (hres : f.resultTypes = #[tb]) (htb : P.underlying tb = some .bool) (hvars : s.vars = []) (hfn : s.fn H ds = { results := [.lit (.bool true)], args := ds })
    (hW : DataW.Whole enc P f.params.toList s.vars apart W args.toList ds gs before) (hb : Below W.heap.size W W') : s.post enc P f apart fresh handsOn again W args (.bool true) W' := by
  have hW' := hW
  obtain ⟨p, q, hA, hV, rfl, hfz, hnd⟩ := hW
  rw [hvars] at hV
  obtain ⟨rfl, rfl⟩ := trodVars_none hV
  have hsame : ∀ x ∈ p, W.sameAt W' x := fun x hx => hb.same (hW'.lt x (by simpa using hx))
  have hfn' : s.fn H (ds ++ []) = { results := [.lit (.bool true)], args := ds } := by rw [List.append_nil]; exact hfn
  have hold : ∀ x ∈ p ++ [], (fun b => decide (b < W.heap.size)) x.block = true := fun x hx => by simpa using hW'.lt x hx
  have hR : ∀ (b : Nat) (sp : Nat → Bool) (hd : Bool), DataW.TrodAll enc P W' b sp hd f.resultTypes.toList ((Value.bool true).resultList f.resultTypes.size) (s.fn H (ds ++ [])).results [] := fun b sp hd => by
    rw [hfn', hres]
    exact ⟨[], [], shut_bool htb true, rfl, rfl⟩
  have hAr : ∀ sp : Nat → Bool, (∀ x ∈ p, sp x.block = true) → DataW.TrodAll enc P W' 0 sp true f.params.toList args.toList (s.fn H (ds ++ [])).args p := fun sp hsp => by
    rw [hfn']
    exact trodAll_stays hl _ _ _ _ hread hA hsame hsp
  have hVa : ∀ sp : Nat → Bool, DataW.TrodVars enc P W' sp s.vars (s.fn H (ds ++ [])).vars [] := fun sp => by
    rw [hfn', hvars]
    rfl
  refine ⟨ds, [], p ++ [], [], p, [], hW', hR _ _ _, hAr _ (fun x hx => hold x (by simpa using hx)), hVa _, hb.frame _, fun _ => ⟨?_, _, _, ([] ++ p) ++ [], ⟨[] ++ p, [], trodAll_append (hAr _ (fun _ _ => rfl)) (hR _ _ _), hVa _, rfl, ?_, ?_⟩, ?_⟩⟩
  · intro j t r h1 h2
    rw [hres] at h1 h2
    cases j with
    | zero =>
      simp at h1
      subst h1
      have : r = .bool true := by simpa [Value.resultList] using h2.symm
      subst this
      exact okWide_bool_mk htb true
    | succ j => simp at h1
  · intro b off hp
    rw [hb.frozen (hW'.lt _ (by simpa using hp))]
    exact hfz b off (by simpa using hp)
  · intro ha
    have := hnd ha
    simpa using this
  · intro x hx _
    simpa using hx

/-- a law whose arguments are plain values, run from a begin where nothing else is known -/
theorem calls_plain {F : CallF} (hF : FSound P F) {f : FuncId} {m : Int} (hG : 0 < P.globals.size) {args : List Value} (ha : ∀ (μ : Nat → Spot) (n : Nat), VRs μ n args args) (hrun : callK F f args (St.begin m P.globals.size) fun v _ => v = .bool true)
    (w : World) (hm : w.cell? ⟨0, 0, none⟩ = some (.int .i64 m)) (h0 : 0 < w.heap.size) :
    Calls P f args.toArray w fun e w' => e = .returned (.bool true) ∧ Below w.heap.size w w' := by
  have hr : Rel w.heap.size w (fun i => ⟨i, 0, 1, 0⟩) (St.begin m P.globals.size) w := by
    refine Rel.start _ (fun i o hi => ?_) (fun i o hi => ?_)
    · rw [begin_get] at hi
      split at hi
      · rename_i h
        subst h
        cases hi
        refine ⟨hG, h0, rfl, by simp, fun j v hj => ?_, fun _ => .inl h0, fun h => by cases h⟩
        cases j with
        | zero => simp at hj; subst hj; exact ⟨_, hm, .int _ _⟩
        | succ j => simp at hj
      · cases hi
    · rw [begin_get] at hi
      split at hi
      · cases hi; rfl
      · cases hi
  have hg : Glob P (fun i => ⟨i, 0, 1, 0⟩) (St.begin m P.globals.size).next := fun g hg => ⟨hg, rfl, rfl⟩
  refine (calls_of_run hF hrun hr hg (ha _ _)).mono fun e w' h => ?_
  obtain ⟨v, s', v', h1, h2, μ', _, h3, h4⟩ := h
  simp only at h1
  subst h1
  cases h4
  exact ⟨h2, h3.below⟩

theorem slice_at {r : Reach} {b0 : Nat} {w : World} {t e : TypeId} {v : Value} (ht : P.underlying t = some (.slice e)) (h : Value.okWide P w r b0 t v) :
    v = .slice none 0 0 ∨ ∃ b off len cap, v = .slice (some ⟨b, off, none⟩) len cap ∧ len ≤ cap ∧ b < w.heap.size := by
  obtain ⟨a, len, cap, rfl⟩ := okWide_slice ht h
  simp only [Value.okWide, ht, Cell.okWide] at h
  cases a with
  | none =>
    simp only [Cell.ok, ht] at h
    cases len <;> cases cap <;> simp_all
  | some a =>
    simp only [Cell.ok, ht] at h
    obtain ⟨h1, _, _, h2, row, cells, h3, _⟩ := h
    obtain ⟨b, off, spot⟩ := a
    simp only at h2 h3
    subst h2
    refine .inr ⟨b, off, len, cap, rfl, h1, ?_⟩
    unfold World.shape? at h3
    by_cases hb : b < w.heap.size
    · exact hb
    · rw [Array.getElem?_eq_none (by omega)] at h3
      simp at h3

theorem mapM_get {α β : Type} {f : α → Option β} : ∀ {l : List α} {ys : List β}, l.mapM f = some ys → ∀ (i : Nat) (x : α), l[i]? = some x → f x = ys[i]?
  | [], ys, h, i, x, hx => by simp at hx
  | a :: l, ys, h, i, x, hx => by
    rw [List.mapM_cons] at h
    simp only [Option.bind_eq_bind, Option.bind_eq_some_iff, Option.pure_def, Option.some.injEq] at h
    obtain ⟨y, hy, ys', hys, rfl⟩ := h
    cases i with
    | zero => simp at hx; subst hx; simpa using hy
    | succ i => simp only [List.getElem?_cons_succ] at hx ⊢; exact mapM_get hys i x hx

/-- a row of pairs of texts (or of any fixed number of them), as the reader sees it -/
theorem texts_read {w : World} {t e u : TypeId} {n b off len cap : Nat} {d : DataW H} {ps : List MemPlace} (ht : P.underlying t = some (.slice e)) (he : P.underlying e = some (.array n u)) (hu : P.underlying u = some .string) (hc : P.cellsOf e = n) (hc1 : P.cellsOf u = 1)
    (h : DataW.Trod enc P w 0 (fun _ => true) true t (.slice (some ⟨b, off, none⟩) len cap) d ps) :
    ∃ ls : List ByteArray, ls.length = len * n ∧ ∀ (j : Nat) (s : ByteArray), ls[j]? = some s → w.cell? ⟨b, off + j, none⟩ = some (.string s) := by
  obtain ⟨fuel, hf⟩ := h
  have hcell : ∀ j, j < len * n → ∃ s, w.cell? ⟨b, off + j, none⟩ = some (.string s) := by
    rcases DataW.trod_slice ht hf with ⟨h0, _⟩ | ⟨a, len', cap', elems, rest, m, _, h1, _, _, _, _, hlen, hel, _⟩
    · simp [Value.cells] at h0
    · simp [Value.cells] at h1
      obtain ⟨rfl, rfl, rfl⟩ := h1
      intro j hj
      have hn : 0 < n := Nat.pos_of_ne_zero fun h0 => by subst h0; simp at hj
      have hi : j / n < len := Nat.div_lt_of_lt_mul (by rw [Nat.mul_comm]; exact hj)
      have hj' := hel (j / n) hi
      rw [List.getElem?_eq_getElem (by omega), Option.bind_eq_some_iff] at hj'
      obtain ⟨cs, hcs, hy⟩ := hj'
      obtain ⟨xs, m', _, _, hl, hxl, hx⟩ := DataW.trod_array he hy
      have hk : j % n < n := Nat.mod_lt _ hn
      have hx' := hx (j % n) hk
      rw [List.getElem?_eq_getElem (by omega)] at hx'
      obtain ⟨s, hs, _, _⟩ := DataW.trod_string hu hx'
      rw [hc1, Nat.mul_one] at hs
      have hsk : cs[j % n]? = some (.string s) := by
        have := congrArg (fun l => l[0]?) hs
        simpa using this
      rw [hc] at hcs
      unfold World.cells? at hcs
      rw [if_pos (Nat.zero_le _)] at hcs
      have := mapM_get hcs (j % n) (j % n) (by rw [List.getElem?_range hk])
      rw [hsk, add_eq, add_eq] at this
      refine ⟨s, ?_⟩
      rw [← this]
      congr 2
      rw [Nat.add_assoc]
      congr 1
      rw [Nat.mul_comm]
      exact (Nat.div_add_mod j n).symm
  refine ⟨(List.range (len * n)).map fun j => match w.cell? ⟨b, off + j, none⟩ with
    | some (.string s) => s
    | _ => .empty, by simp, fun j s hj => ?_⟩
  simp only [List.getElem?_map, Option.map_eq_some_iff] at hj
  obtain ⟨j', hj1, hj2⟩ := hj
  obtain ⟨hj3, rfl⟩ : j' < len * n ∧ j = j' := by
    rw [List.getElem?_eq_some_iff] at hj1
    obtain ⟨q1, q2⟩ := hj1
    simp at q1 q2
    exact ⟨by omega, q2⟩
  obtain ⟨s', hs'⟩ := hcell j hj3
  rw [hs'] at hj2 ⊢
  simp only at hj2
  rw [hj2]
end
end Go.Am
