/-
  copy; all the operations that turn the heap; the step of a range.
-/
import Derived.Test.YtdmemibnphcedaaGreatDoorAmOps7
set_option linter.unusedSimpArgs false
set_option linter.unusedVariables false
set_option maxRecDepth 10000
namespace Go.Am
open Go.RowKit (Below)

variable {P : Program} {B0 : Nat} {W0 : World} {μ : Nat → Spot} {s : St} {w : World} {o : Oper}

theorem storeAt_nil {s1 : St} {i off : Nat} (hs : s.storeAt ⟨i, off, none⟩ [] = some s1) : ∃ cs g, s.get i = some (.row cs g false) ∧ s1 = s.put i (some (.row (lputs cs off []) g false)) := by
  unfold St.storeAt at hs
  simp only at hs
  split at hs
  · rename_i cs g hget
    split at hs
    · simp at hs; exact ⟨cs, g, hget, hs.symm⟩
    · cases hs
  · cases hs

theorem ws_copy {t u e : TypeId} {esz : Nat} {x y : Operand} (ht : P.underlying t = some (.slice e)) (hm : sizeT P e = some esz) (ho : o.op = .call { callee := .builtin .copy, args := #[x, y], argTypes := #[t, u] }) : WSound P B0 W0 μ s w o (.copy esz) [x, y] := by
  intro ρ vs v s' h hv hp
  obtain ⟨a, b, rfl, ha, hb⟩ := hv.inv2
  generalize hx : ρ x = x' at ha
  cases ha <;> (try (simp [wop] at hp; done))
  case nilSlice =>
    simp only [wop] at hp
    split at hp <;> (try (cases hp; done))
    rename_i n new hn hl
    obtain ⟨hlen, hfirst⟩ := src_sound (P := P) h hb hn hl
    obtain ⟨l', k1, _⟩ := hfirst 0 (by omega)
    simp at hp
    obtain ⟨rfl, rfl⟩ := hp
    exact ⟨.int .i64 0, w, .inl (by simp [execOp, ho, resolve, invoke, builtin, Builtin.copy_, hx, r_under w ht, hlen, r_size w hm, k1, goInt]), μ, Agree.refl _ _, h, .int _ _⟩
  case void ad =>
    simp only [wop] at hp
    split at hp <;> cases hp
  case slice i off off' len cap cap' hi q0 q1 q2 q3 q4 q5 =>
    simp only [wop] at hp
    split at hp <;> (try (cases hp; done))
    rename_i n new hn hl
    obtain ⟨hlen, hfirst⟩ := src_sound (P := P) h hb hn hl
    obtain ⟨l', k1, k2⟩ := hfirst (Nat.min n len) (Nat.min_le_left _ _)
    simp only [Option.map_eq_some_iff, Prod.mk.injEq] at hp
    obtain ⟨s1, hs, rfl, rfl⟩ := hp
    by_cases hz : Nat.min n len * esz = 0
    · rw [hz] at hs k2
      have hl' : l' = [] := List.length_eq_zero_iff.1 (by rw [k2.length]; simp)
      subst hl'
      have hs1 := storeAt_nil (s := s) (s1 := s1) (i := i) (off := off) (by simpa using hs)
      obtain ⟨cs, g, hget, rfl⟩ := hs1
      refine ⟨.int .i64 (Nat.min n len), w, .inl (by simp [execOp, ho, resolve, invoke, builtin, Builtin.copy_, hx, r_under w ht, hlen, r_size w hm, k1, goInt, storeCells]), μ, Agree.refl _ _, h.congr rfl (fun j => ?_), .int _ _⟩
      rw [St.get_put]
      split
      · rename_i hj; subst hj; rw [hget]; simp [lputs]
      · rfl
    · have hlen0 : 0 < len := by
        rcases Nat.eq_zero_or_pos len with e | e
        · exact absurd (by rw [e]; simp [Nat.min]) hz
        · exact e
      have hoo := q3 (.inl (by omega))
      subst hoo
      obtain ⟨m1, m2, m3⟩ := storeAt_sound (P := P) h k2 hs
      refine ⟨.int .i64 (Nat.min n len), w.setCells (μ i).block ((μ i).base + off) l', .inl (by simp [execOp, ho, resolve, invoke, builtin, Builtin.copy_, hx, r_under w ht, hlen, r_size w hm, k1, goInt, m1]), μ, ⟨by omega, fun _ _ => rfl⟩, m2, .int _ _⟩

theorem wop_sound {q : WOp} {xs : List Operand} (hc : compOp P o.op = some (.w q, xs)) : WSound P B0 W0 μ s w o q xs := by
  cases ho : o.op with
  | alloc e =>
    simp only [ho, compOp, Option.bind_eq_some_iff] at hc
    obtain ⟨z, hz, hc⟩ := hc
    split at hc
    · simp at hc; obtain ⟨rfl, rfl⟩ := hc; exact ws_new hz ho
    · cases hc
  | box e x => simp [ho, compOp] at hc; obtain ⟨k, _, rfl, rfl⟩ := hc; exact ws_box ho
  | buildSlice t len parts =>
    simp only [ho, compOp] at hc
    split at hc
    · rename_i e ht
      simp only [Option.bind_eq_some_iff] at hc
      obtain ⟨z, hz, m, hm, ps, hps, hc⟩ := hc
      split at hc
      · rename_i hcond
        simp at hc; obtain ⟨rfl, rfl⟩ := hc
        exact ws_sliceLit ht hz hm hps hcond.1 hcond.2 ho
      · cases hc
    · cases hc
  | store t a x => simp [ho, compOp] at hc; obtain ⟨k, hk, rfl, rfl⟩ := hc; exact ws_store hk ho
  | makeMap t r =>
    cases r with
    | none => simp [ho, compOp] at hc; obtain ⟨rfl, rfl⟩ := hc; exact ws_mkMap ho
    | some r => simp [ho, compOp] at hc
  | makeSlice t l c =>
    simp only [ho, compOp] at hc
    split at hc
    · rename_i e ht
      simp only [Option.bind_eq_some_iff] at hc
      obtain ⟨z, hz, m, hm, b, hb, hc⟩ := hc
      split at hc
      · rename_i hcond
        simp at hc; obtain ⟨rfl, rfl⟩ := hc
        exact ws_mkSlice ht hz hm hb hcond.1 hcond.2 ho
      · cases hc
    · cases hc
  | slice t x lo hi mx =>
    simp only [ho, compOp] at hc
    split at hc
    · simp at hc
    · simp at hc
    · simp at hc
    · rename_i e ht
      split at hc
      · simp at hc; obtain ⟨⟨m, hm⟩, rfl, rfl⟩ := hc; exact ws_sl3 ht hm ho
      · cases hc
    · cases hc
  | convert a b x =>
    simp only [ho, compOp] at hc
    split at hc
    · simp at hc
    · rename_i e h1 h2
      split at hc
      · rename_i he; simp at hc; obtain ⟨rfl, rfl⟩ := hc; exact ws_strToBytes h1 h2 he ho
      · cases hc
    · split at hc <;> simp at hc
    · cases hc
  | mapUpdate t m k x =>
    simp only [ho, compOp] at hc
    split at hc
    · rename_i kt e ht
      simp at hc; obtain ⟨kk, hkk, rfl, rfl⟩ := hc; exact ws_mapSet ht hkk (.inl rfl) ho
    · cases hc
  | insert t m k x =>
    simp only [ho, compOp] at hc
    split at hc
    · rename_i kt e ht
      simp at hc; obtain ⟨kk, hkk, rfl, rfl⟩ := hc; exact ws_mapSet ht hkk (.inr rfl) ho
    · cases hc
  | range t x =>
    simp only [ho, compOp] at hc
    split at hc
    · rename_i ht; simp at hc; obtain ⟨rfl, rfl⟩ := hc; exact ws_rangeStr ht ho
    · rename_i k e ht; simp at hc; obtain ⟨rfl, rfl⟩ := hc; exact ws_rangeMap ht ho
    · cases hc
  | call c =>
    simp only [ho, compOp, compCall] at hc
    split at hc
    · simp at hc
    · simp at hc
    · simp at hc
    · rename_i b hb
      split at hc
      · split at hc <;> simp at hc
      · rename_i t u x y h2 h3
        have hcall := call_eq hb h2 h3
        rw [hcall] at ho
        split at hc
        · rename_i e e' ht hu
          simp only [Option.bind_eq_some_iff] at hc
          obtain ⟨m, hm, b', hb', z, hz, hc⟩ := hc
          split at hc
          · rename_i hzm
            simp at hc; obtain ⟨rfl, rfl⟩ := hc; exact ws_append ht (.inl ⟨_, hu⟩) hz hm hb' hzm (by simpa using ho)
          · cases hc
        · rename_i e ht hu
          simp only [Option.bind_eq_some_iff] at hc
          obtain ⟨m, hm, b', hb', z, hz, hc⟩ := hc
          split at hc
          · rename_i hzm
            simp at hc; obtain ⟨rfl, rfl⟩ := hc; exact ws_append ht (.inr hu) hz hm hb' hzm (by simpa using ho)
          · cases hc
        · cases hc
      · rename_i t u x y h2 h3
        have hcall := call_eq hb h2 h3
        rw [hcall] at ho
        split at hc
        · rename_i e ht; simp at hc; obtain ⟨m, hm, rfl, rfl⟩ := hc; exact ws_copy ht hm (by simpa using ho)
        · cases hc
      · rename_i t u x y h2 h3
        have hcall := call_eq hb h2 h3
        rw [hcall] at ho
        split at hc
        · rename_i k e ht; simp at hc; obtain ⟨kk, hkk, rfl, rfl⟩ := hc; exact ws_delete ht hkk (by simpa using ho)
        · cases hc
      · simp at hc
      · simp at hc
      · cases hc
  | load t a =>
    simp only [ho, compOp, Option.bind_eq_some_iff] at hc
    obtain ⟨b, hb, hc⟩ := hc
    cases b <;> simp at hc
  | lookup t x i ok =>
    simp only [ho, compOp] at hc
    split at hc
    · simp only [Option.bind_eq_some_iff, Option.map_eq_some_iff, Prod.mk.injEq, reduceCtorEq, false_and, and_false, exists_false] at hc
    · cases hc
  | build t parts =>
    simp only [ho, compOp] at hc
    split at hc <;> first | (cases hc; done) | (simp only [Option.bind_eq_some_iff, Option.map_eq_some_iff, Prod.mk.injEq, reduceCtorEq, false_and, and_false, exists_false] at hc)
  | binOp op t x y t2 =>
    simp only [ho, compOp] at hc
    split at hc
    · simp at hc
    · simp at hc
    · split at hc <;> simp at hc
    · split at hc
      · split at hc
        · split at hc <;> simp at hc
        · cases hc
      · cases hc
    · cases hc
  | makeInterface t x => simp only [ho, compOp] at hc; split at hc <;> simp at hc
  | fieldAddr t x f =>
    simp only [ho, compOp] at hc
    split at hc
    · split at hc
      · split at hc <;> simp at hc
      · cases hc
    · cases hc
  | field t x f =>
    simp only [ho, compOp] at hc
    split at hc
    · split at hc
      · simp only [Option.bind_eq_some_iff, Option.map_eq_some_iff, Prod.mk.injEq, reduceCtorEq, false_and, and_false, exists_false] at hc
      · cases hc
    · cases hc
  | indexAddr t x i => simp only [ho, compOp] at hc; split at hc <;> simp at hc
  | index t x i =>
    simp only [ho, compOp] at hc
    split at hc
    · simp at hc
    · simp only [Option.bind_eq_some_iff, Option.map_eq_some_iff, Prod.mk.injEq, reduceCtorEq, false_and, and_false, exists_false] at hc
    · cases hc
  | typeAssert x tx t ok => simp only [ho, compOp] at hc; split at hc <;> simp at hc
  | _ => simp [ho, compOp] at hc

/-! ### a range's step -/
def NSound (P : Program) (B0 : Nat) (W0 : World) (μ : Nat → Spot) (s : St) (w : World) (o : Oper) (str : Bool) (xs : List Operand) : Prop :=
  ∀ (ρ : Operand → Value) (vs : List Value) (Q : Value × St → Prop), Rel B0 W0 μ s w → VRs μ s.next vs (xs.map ρ) → (nextV str vs s).all Q → ∃ v s' v' w', Q (v, s') ∧ Did P ρ o w v' w' ∧ After B0 W0 μ s v s' v' w'

theorem filter_rel {n c : Nat} {seen : List Nat} : ∀ {es : List (Value × Value × Nat)} {es' : List MapEntry}, ER μ n c es es' → ER μ n c (es.filter fun e => !seen.contains e.2.2) (es'.filter fun e => !seen.contains e.born)
  | [], [], _ => trivial
  | e :: es, e' :: es', ⟨h1, h2, h3, h4, h5⟩ => by
    simp only [List.filter_cons, h3]
    split
    · exact ⟨h1, h2, h3, h4, filter_rel h5⟩
    · exact filter_rel h5
  | [], _ :: _, h => h.elim
  | _ :: _, [], h => h.elim
theorem ER.get {n c : Nat} : ∀ {es : List (Value × Value × Nat)} {es' : List MapEntry}, ER μ n c es es' → ∀ {j : Nat} {e : Value × Value × Nat}, es[j]? = some e → ∃ e', es'[j]? = some e' ∧ VR μ n e.1 e'.key ∧ VR μ n e.2.1 e'.val ∧ e'.born = e.2.2 ∧ e.2.2 < c
  | [], [], _, j, e, h => by simp at h
  | e :: es, e' :: es', ⟨h1, h2, h3, h4, h5⟩, 0, x, h => by simp at h; subst h; exact ⟨e', rfl, h1, h2, h3, h4⟩
  | e :: es, e' :: es', ⟨h1, h2, h3, h4, h5⟩, j + 1, x, h => by simpa using ER.get h5 (by simpa using h)
  | [], _ :: _, h, _, _, _ => h.elim
  | _ :: _, [], h, _, _, _ => h.elim
theorem ER.born_lt {n c : Nat} : ∀ {es : List (Value × Value × Nat)} {es' : List MapEntry}, ER μ n c es es' → ∀ e' ∈ es', e'.born < c
  | [], [], _, _, h => by simp at h
  | e :: es, e' :: es', ⟨h1, h2, h3, h4, h5⟩, x, h => by
    cases h with
    | head => omega
    | tail _ h => exact ER.born_lt h5 x h
  | [], _ :: _, h, _, _ => h.elim
  | _ :: _, [], h, _, _ => h.elim

theorem next_sound {str : Bool} {xs : List Operand} {x : Operand} (hxs : xs = [x]) (ho : o.op = .next x str) : NSound P B0 W0 μ s w o str xs := by
  subst hxs
  intro ρ vs Q h hv hp
  obtain ⟨a, rfl, ha⟩ := hv.inv1
  generalize hx : ρ x = x' at ha
  cases ha <;> (try (simp [nextV, Out.all] at hp; done))
  rename_i i off hi
  simp only [nextV] at hp
  split at hp
  · exact hp.elim
  · rename_i hoff
    have hoff' : off = 0 := by simpa using hoff
    subst hoff'
    split at hp <;> (try (exact hp.elim))
    · rename_i b pos hget
      obtain ⟨hB, hb0, hblk⟩ := (h.known i _ hget).2.2
      have hgo : (getObj (μ i).block).run P w = .ok (.stringIter b pos) w := by simp [getObj, Sem.run, hblk]
      split at hp
      · exact hp.elim
      · rename_i hstr
        have hstr' : str = true := by cases str <;> simp at hstr ⊢
        subst hstr'
        split at hp
        · rename_i hlt
          refine ⟨_, _, .tuple #[.bool true, .int .i64 pos, .int .i32 (Utf8.decode b pos).1], { w with heap := w.heap.setIfInBounds (μ i).block (.stringIter b (pos + (Utf8.decode b pos).2)) }, hp, .inl ?_, μ, Agree.refl _ _, h.setObj hget rfl _ _ ⟨hB, hb0, ?_⟩, ?_⟩
          · simp [execOp, ho, hx, hb0, Instr.next, hgo, hlt, setObj, Sem.run, hblk, goInt]
          · simp [(h.known i _ hget).2.1]
          · exact .tuple _ _ (.cons _ _ _ _ (.bool _) (.cons _ _ _ _ (.int _ _) (.cons _ _ _ _ (.int _ _) .nil)))
        · rename_i hlt
          exact ⟨_, _, .tuple #[.bool false], w, hp, .inl (by simp [execOp, ho, hx, hb0, Instr.next, hgo, hlt]), μ, Agree.refl _ _, h, .tuple _ _ (.cons _ _ _ _ (.bool _) .nil)⟩
    · rename_i since seen last hget
      obtain ⟨hB, hb0, _, hblk⟩ := (h.known i _ hget).2.2
      have hgo : (getObj (μ i).block).run P w = .ok (.mapIter none since seen.toArray last) w := by simp [getObj, Sem.run, hblk]
      split at hp
      · exact hp.elim
      · rename_i hstr
        have hstr' : str = false := by cases str <;> simp at hstr ⊢
        subst hstr'
        exact ⟨_, _, .tuple #[.bool false], w, hp, .inl (by simp [execOp, ho, hx, hb0, Instr.next, hgo]), μ, Agree.refl _ _, h, .tuple _ _ (.cons _ _ _ _ (.bool _) .nil)⟩
    · rename_i m since seen last hget
      obtain ⟨hB, hb0, hmn, hblk⟩ := (h.known i _ hget).2.2
      have hgo : (getObj (μ i).block).run P w = .ok (.mapIter (some (μ m).block) since seen.toArray last) w := by simp [getObj, Sem.run, hblk]
      split at hp <;> (try (exact hp.elim))
      rename_i es clock hgetm
      obtain ⟨_, es', hmb, he⟩ := (h.known m _ hgetm).2.2
      have hgom := MapKept.run_getObj_map (P := P) hmb
      split at hp
      · exact hp.elim
      · rename_i hcond
        have hstr' : str = false := by cases str <;> simp at hcond ⊢
        subst hstr'
        have hcs : clock = since ∧ clock = last := by
          simp only [Bool.false_eq_true, false_or, not_or, Decidable.not_not] at hcond
          exact hcond
        obtain ⟨rfl, rfl⟩ := hcs
        -- what the first machine has left
        have hborn := he.born_lt
        have hfl : (es'.filter fun e => !seen.toArray.contains e.born).toList = es'.toList.filter fun e => !seen.contains e.born := by simp
        have hfr := filter_rel (seen := seen) he
        obtain ⟨left, hleft⟩ : ∃ left, left = es'.filter fun e => !seen.toArray.contains e.born := ⟨_, rfl⟩
        rw [← hfl, ← hleft] at hfr
        have hlb : ∀ e ∈ left, e.born < clock := fun e he' => by
          rw [hleft] at he'
          exact hborn e (by have := (Array.mem_filter.1 he').1; simpa using this)
        have hold : (left.filter fun e => decide (e.born < clock)) = left := by
          rw [Array.filter_eq_self]
          intro e he'
          simpa using hlb e he'
        have hnew : (left.filter fun e => decide (e.born ≥ clock)) = #[] := by
          rw [Array.filter_eq_empty_iff]
          intro e he'
          have := hlb e he'
          simp; omega
        have hodd : (!seen.toArray.isEmpty && !es'.isEmpty && es'.all fun e => decide (e.born ≥ clock)) = false := by
          by_cases hes : es'.isEmpty
          · simp [hes]
          · have : (es'.all fun e => decide (e.born ≥ clock)) = false := by
              rw [Array.all_eq_false]
              have h0 : 0 < es'.size := by
                rcases Nat.eq_zero_or_pos es'.size with e | e
                · exact absurd (by simp [Array.isEmpty, e]) hes
                · exact e
              refine ⟨0, h0, ?_⟩
              have := hborn es'[0] (by simp)
              simp; omega
            simp [this]
        have hrun : ∀ (c : Array (Option MapEntry)) (k : Nat) (w1 : World), c = (if left.isEmpty then #[none] else #[]) ++ (left ++ #[]).map some → (choose (.mapNext c.size)).run P w = .ok k w1 → ∀ r w2, (match c[k]? with
            | some (some e) => (do
              setObj (μ i).block (.mapIter (some (μ m).block) clock (seen.toArray.push e.born) clock)
              pure (.tuple #[.bool true, e.key, e.val]) : Sem Value)
            | some none => pure (.tuple #[.bool false])
            | none => stuck "Next: no such candidate").run P w1 = .ok r w2 → (execOp ρ o).run P w = .ok (.value r) w2 := fun c k w1 hc hch r w2 hm => by
          have hnx : (Instr.next (.pointer (some ⟨(μ i).block, (μ i).base + 0, none⟩)) false o.type).run P w = .ok r w2 := by
            rw [hb0]
            simp only [Instr.next, Sem.run_bind, hgo, hgom, Result.andThen_ok, hodd, Bool.false_eq_true, if_false, ← hleft, hold, hnew, ← hc, hch]
            exact hm
          simp only [execOp, ho, hx, Sem.run_bind, hnx, Result.andThen_ok, Sem.run_pure]
        have hlen := hfr.length
        simp only [Array.length_toList] at hlen
        split at hp
        · rename_i hnil
          rw [hnil] at hlen
          have hl0 : left = #[] := by apply Array.eq_empty_of_size_eq_zero; simpa using hlen
          refine ⟨_, _, .tuple #[.bool false], w, hp, .inl (hrun #[none] 0 w (by simp [hl0]) (by simp [choose, Sem.run, Question.forced]) _ _ (by simp)), μ, Agree.refl _ _, h, .tuple _ _ (.cons _ _ _ _ (.bool _) .nil)⟩
        · rename_i hne
          have hl1 : left.isEmpty = false := by
            cases hq : left.isEmpty with
            | false => rfl
            | true =>
              have : left = #[] := by simpa using hq
              rw [this] at hlen
              exact absurd (List.length_eq_zero_iff.1 (by simpa using hlen.symm)) hne
          have hpos : 0 < left.size := by
            rcases Nat.eq_zero_or_pos left.size with e | e
            · simp [Array.isEmpty, e] at hl1
            · exact e
          obtain ⟨k, w1, hch, hk, hw1⟩ : ∃ k w1, (choose (.mapNext (left.map some).size)).run P w = .ok k w1 ∧ k < left.size ∧ w1.heap = w.heap ∧ w1.os = w.os ∧ w1.tape = w.tape ∧ w1.output = w.output := by
            by_cases hf : left.size ≤ 1
            · exact ⟨0, w, by simp [choose, Sem.run, Question.forced, hf], hpos, rfl, rfl, rfl, rfl⟩
            · exact ⟨w.tape w.drawn (.mapNext (left.map some).size) % left.size, { w with drawn := w.drawn + 1 }, by simp [choose, Sem.run, Question.forced, hf, Question.cut], Nat.mod_lt _ hpos, rfl, rfl, rfl, rfl⟩
          have hkl : k < (es.filter fun e => !seen.contains e.2.2).length := by rw [← hlen]; exact hk
          have hpk := hp.2 k hkl
          simp only [List.getElem?_eq_getElem hkl, Out.all] at hpk
          obtain ⟨e', q1, q2, q3, q4, q5⟩ := hfr.get (List.getElem?_eq_getElem hkl)
          have q1' : left[k]? = some e' := by simpa using q1
          have h1 : Rel B0 W0 μ s w1 := h.heap hw1.1 hw1.2.1 hw1.2.2.1 hw1.2.2.2
          have hblk1 : w1.heap[(μ i).block]? = some (.mapIter (some (μ m).block) clock seen.toArray clock) := by rw [hw1.1]; exact hblk
          refine ⟨_, _, .tuple #[.bool true, e'.key, e'.val], { w1 with heap := w1.heap.setIfInBounds (μ i).block (.mapIter (some (μ m).block) clock (seen.toArray.push e'.born) clock) }, hpk,
            .inl (hrun (left.map some) k w1 (by simp [hl1]) hch _ _ (by simp [q1', setObj, Sem.run, hblk1])), μ, Agree.refl _ _, h1.setObj hget rfl _ _ ⟨hB, hb0, hmn, ?_⟩, .tuple _ _ (.cons _ _ _ _ (.bool _) (.cons _ _ _ _ q2 (.cons _ _ _ _ q3 .nil)))⟩
          rw [q4]
          simp [(h1.known i _ hget).2.1]

end Go.Am
