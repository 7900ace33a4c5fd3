/-
  The operations that look at their operands alone, each held against the first machine's.
-/
import Derived.Test.YtdmemibnphcedaaGreatDoorAmOps1
import Derived.Laws.Tables
set_option linter.unusedSimpArgs false
set_option linter.unusedVariables false
set_option maxRecDepth 10000
namespace Go.Am
open Go.RowKit (Below)

theorem foldl_put : ∀ (l : List Value) (k off : Nat) (cs : Array Value), off + k + l.length ≤ cs.size →
    ((l.zipIdx k).foldl (fun (cs : Array Value) (x : Value × Nat) => cs.setIfInBounds (off + x.2) x.1) cs).toList = lputs cs.toList (off + k) l
  | [], k, off, cs, _ => by simp [lputs]
  | v :: l, k, off, cs, h => by
    simp only [List.length_cons] at h
    rw [List.zipIdx_cons, List.foldl_cons, foldl_put l (k + 1) off _ (by simp; omega)]
    simp only [Array.toList_setIfInBounds, lputs]
    have h1 : (cs.toList.set (off + k) v).take (off + (k + 1)) = cs.toList.take (off + k) ++ [v] := by
      rw [List.take_set]
      rw [show off + (k + 1) = (off + k) + 1 by omega, List.take_succ_eq_append_getElem (by simp; omega)]
      rw [List.set_append_right _ _ (by simp; omega)]
      simp
      rw [show off + k - min (off + k) cs.size = 0 by omega]
      rfl
    have h2 : (cs.toList.set (off + k) v).drop (off + (k + 1) + l.length) = cs.toList.drop (off + k + (v :: l).length) := by
      rw [List.drop_set_of_lt (by omega)]
      congr 1
      simp; omega
    rw [h1, h2]
    simp

theorem fill_sound {μ : Nat → Spot} {n : Nat} {f : Nat → Option (Nat × Nat)} : ∀ (is : List Nat) (ps : List (Nat × Nat)) (vs vs' : List Value) (cells : List Value) (cells' : Array Value) (cs : List Value),
    VRs μ n cells cells'.toList → VRs μ n vs vs' → placesBy f is = some ps → fillL cells ps vs = some cs → ∃ cs', Instr.fill f cells' (is.zip vs') = some cs' ∧ VRs μ n cs cs'.toList
  | [], ps, vs, vs', cells, cells', cs, hc, hv, hp, hf => by
    simp [placesBy] at hp
    subst hp
    cases hv with
    | nil => simp [fillL] at hf; subst hf; exact ⟨cells', by simp [Instr.fill], hc⟩
    | cons => simp [fillL] at hf
  | i :: is, ps, vs, vs', cells, cells', cs, hc, hv, hp, hf => by
    simp only [placesBy] at hp
    cases hfi : f i with
    | none => simp [hfi] at hp
    | some p =>
      cases hps : placesBy f is with
      | none => simp [hfi, hps] at hp
      | some ps' =>
        simp [hfi, hps] at hp
        subst hp
        obtain ⟨off, size⟩ := p
        cases hv with
        | nil => simp [fillL] at hf
        | cons v v' l l' h hs =>
          simp only [fillL] at hf
          split at hf
          · rename_i hcond
            obtain ⟨h1, h2⟩ := hcond
            have hcl := h.cellsOf
            have hl := hcl.length
            have hlc := hc.length
            simp only [Array.length_toList] at hl hlc
            have hput := foldl_put v'.cells.toList 0 off cells' (by simp; omega)
            have hrel : VRs μ n (lputs cells off (cellsOf v)) (lputs cells'.toList off v'.cells.toList) := by
              unfold lputs
              rw [hcl.length]
              exact ((hc.take _).append hcl).append (hc.drop _)
            simp only [Nat.add_zero] at hput
            have heq : (v'.cells.zipIdx.foldl (fun cs x => cs.setIfInBounds (off + x.2) x.1) cells').toList = lputs cells'.toList off v'.cells.toList := by
              rw [← hput, ← Array.foldl_toList, Array.toList_zipIdx]
            obtain ⟨cs', k1, k2⟩ := fill_sound is ps' l l' _ (v'.cells.zipIdx.foldl (fun cs x => cs.setIfInBounds (off + x.2) x.1) cells') cs (by rw [heq]; exact hrel) hs hps hf
            refine ⟨cs', ?_, k2⟩
            simp only [List.zip_cons_cons, Instr.fill, hfi]
            have hno : ¬ (v'.cells.size ≠ size || decide (off + v'.cells.size > cells'.size)) = true := by simp; omega
            rw [if_neg hno]
            exact k1
          · cases hf

/-- the operation, carried out on values that stand for its operands', comes to what p reckons -/
def PSound (P : Program) (μ : Nat → Spot) (n : Nat) (o : Oper) (p : POp) (xs : List Operand) : Prop :=
  ∀ (ρ : Operand → Value) (vs : List Value) (v : Value) (w : World), VRs μ n vs (xs.map ρ) → pop p vs = some v → ∃ v', (execOp ρ o).run P w = .ok (.value v') w ∧ VR μ n v v'

section
variable {P : Program} {μ : Nat → Spot} {n : Nat} {o : Oper}

theorem ps_move {x : Operand} (ho : o.op = .move x ∨ o.op = .assign x) : PSound P μ n o .move [x] := by
  intro ρ vs v w hv hp
  obtain ⟨a, rfl, ha⟩ := hv.inv1
  simp [pop] at hp
  subst hp
  exact ⟨ρ x, by rcases ho with ho | ho <;> simp [execOp, ho], ha⟩

theorem ps_pick {c a a2 : Operand} (ho : o.op = .pick c a a2) : PSound P μ n o .pick [c, a, a2] := by
  intro ρ vs v w hv hp
  obtain ⟨x, y, z, rfl, hx, hy, hz⟩ := hv.inv3
  generalize hc : ρ c = c' at hx
  cases hx <;> simp [pop] at hp
  rename_i b
  subst hp
  refine ⟨if b then ρ a else ρ a2, by cases b <;> simp [execOp, ho, hc, asBool], ?_⟩
  cases b <;> assumption

theorem ps_build {t : TypeId} {parts : Array (Nat × Operand)} {z : Value} {ps : List (Nat × Nat)} (ho : o.op = .build t parts) (ht : (∃ fs, P.underlying t = some (.struct fs)) ∨ ∃ k e, P.underlying t = some (.array k e))
    (hz : zeroT P t = some z) (hp : placesOf P t (parts.toList.map (·.1)) = some ps) : PSound P μ n o (.build (cellsOf z) ps) (parts.toList.map (·.2)) := by
  intro ρ vs v w hv hpop
  obtain ⟨i, hi, hiz, hpl⟩ := zeroT_spec hz
  simp only [pop, Option.map_eq_some_iff] at hpop
  obtain ⟨cs, hcs, rfl⟩ := hpop
  unfold placesOf at hp
  cases hf : placeFn P t with
  | none => simp [hf] at hp
  | some f =>
    simp [hf] at hp
    obtain ⟨cs', k1, k2⟩ := fill_sound _ ps vs _ (cellsOf z) z.cells cs (plainV_rel hpl).cellsOf hv hp hcs
    refine ⟨.agg cs', ?_, .agg _ _ (by simpa using k2)⟩
    have hb : P.built t (parts.map fun (i, x) => (i, ρ x)).toList = some cs' := by
      have hzip : (parts.map fun (i, x) => (i, ρ x)).toList = (parts.toList.map (·.1)).zip ((parts.toList.map (·.2)).map ρ) := by
        rw [Array.toList_map, List.map_map]
        generalize parts.toList = l
        induction l with
        | nil => rfl
        | cons x l ih => simp [ih]
      rw [hzip]
      unfold Program.built
      rcases ht with ⟨fs, ht⟩ | ⟨k, e, ht⟩
      · simp only [placeFn, ht, Option.map_eq_some_iff] at hf
        obtain ⟨places, hpl', rfl⟩ := hf
        simp only [hi, ht, hiz, hpl']
        simpa using k1
      · simp only [placeFn, ht, Option.map_eq_some_iff, sizeT] at hf
        obtain ⟨m, ⟨ie, hie, rfl⟩, rfl⟩ := hf
        simp only [hi, ht, hiz, hie]
        exact k1
    simp only [execOp, ho, Sem.run_bind, run_build w t _ cs' hb, Result.andThen_ok]
    rfl

theorem ps_nilCheck {x : Operand} (ho : o.op = .nilCheck x) : PSound P μ n o .nilCheck [x] := by
  intro ρ vs v w hv hp
  obtain ⟨a, rfl, ha⟩ := hv.inv1
  generalize hx : ρ x = x' at ha
  have := ha
  cases ha <;> simp [pop] at hp
  case ptr i o' h => subst hp; exact ⟨_, by simp [execOp, ho, hx], this⟩
  case iface t v1 v1' h => subst hp; exact ⟨_, by simp [execOp, ho, hx], this⟩
  case func fn f1 c1 f2 c2 h1 h2 =>
    cases fn <;> simp at hp
    subst hp
    exact ⟨_, by simp [execOp, ho, hx], this⟩

theorem ps_bin {op : BinOp} {t t2 : TypeId} {x y : Operand} (ho : o.op = .binOp op t x y t2) : PSound P μ n o (.bin op) [x, y] := by
  intro ρ vs v w hv hp
  obtain ⟨a, b, rfl, ha, hb⟩ := hv.inv2
  obtain ⟨h1, h2, h3⟩ := binV_sound (P := P) w t ha hb (by simpa [pop] using hp) x y
  exact ⟨v, by simp [execOp, ho, h1, h3], h2⟩

theorem ps_binB {neg : Bool} {t t2 : TypeId} {x y : Operand} (ht : P.underlying t = some .bool) (ho : o.op = .binOp (if neg then .neq else .eql) t x y t2) : PSound P μ n o (.binB neg) [x, y] := by
  intro ρ vs v w hv hp
  obtain ⟨a, b, rfl, ha, hb⟩ := hv.inv2
  generalize hx : ρ x = x' at ha
  generalize hy : ρ y = y' at hb
  cases ha <;> cases hb <;> simp [pop] at hp
  rename_i b1 b2
  subst hp
  obtain ⟨h1, h2⟩ := binB_sound ht w neg b1 b2 x y
  exact ⟨_, by simp only [execOp, ho, hx, hy, Sem.run_bind, h1, h2, Result.andThen_ok]; rfl, .bool _⟩

theorem ps_nilEq {neg : Bool} {t t2 : TypeId} {x y : Operand} {d : TypeDesc} {k : NilK} (ht : P.underlying t = some d) (hd : nilKOf d = some k) (hc : (isConst x || isConst y) = true) (ho : o.op = .binOp (if neg then .neq else .eql) t x y t2) :
    PSound P μ n o (.nilEq k neg) [x, y] := by
  intro ρ vs v w hv hp
  obtain ⟨a, b, rfl, ha, hb⟩ := hv.inv2
  obtain ⟨h1, h2, h3⟩ := nilEq_sound w ht hd neg ha hb (by simpa [pop] using hp) hc
  exact ⟨_, by simp only [execOp, ho, Sem.run_bind, h1, h3, Result.andThen_ok]; rfl, h2⟩

theorem ps_un {op : UnOp} {t : TypeId} {x : Operand} (ho : o.op = .unOp op t x) : PSound P μ n o (.un op) [x] := by
  intro ρ vs v w hv hp
  obtain ⟨a, rfl, ha⟩ := hv.inv1
  generalize hx : ρ x = x' at ha
  simp only [pop] at hp
  cases ha <;> cases op <;> simp only [unV, wrapF_eq, Option.some.injEq, reduceCtorEq] at hp <;> subst hp <;> refine ⟨_, ?_, by first | exact .int _ _ | exact .bool _⟩ <;>
    simp only [execOp, ho, hx, Op.unary, Op.intArith, Op.intBits, Sem.run_bind, Sem.run_pure, Result.andThen_ok]

theorem ps_convInt {k : IntKind} {s t : TypeId} {x : Operand} {ks : IntKind} (hs : P.underlying s = some (.int ks)) (ht : P.underlying t = some (.int k)) (ho : o.op = .convert s t x) : PSound P μ n o (.convInt k) [x] := by
  intro ρ vs v w hv hp
  obtain ⟨a, rfl, ha⟩ := hv.inv1
  generalize hx : ρ x = x' at ha
  cases ha <;> simp [pop, wrapF_eq] at hp
  subst hp
  exact ⟨_, by simp [execOp, ho, hx, convert, r_under w hs, r_under w ht, Conv.intToInt], .int _ _⟩

theorem ps_mkIface {t : TypeId} {x : Operand} {d : TypeDesc} (ht : P.underlying t = some d) (hd : ∀ ms, d ≠ .interface ms) (ho : o.op = .makeInterface t x) : PSound P μ n o (.mkIface t) [x] := by
  intro ρ vs v w hv hp
  obtain ⟨a, rfl, ha⟩ := hv.inv1
  simp [pop] at hp
  subst hp
  refine ⟨_, ?_, .iface _ _ _ ha⟩
  cases d <;> first | exact absurd rfl (hd _) | (simp [execOp, ho, Instr.makeInterface, r_under w ht])

theorem ps_mkFunc {fn : Fn} {first captured : Array Operand} (ho : o.op = .makeFunc fn first captured) : PSound P μ n o (.mkFunc fn first.size) (first.toList ++ captured.toList) := by
  intro ρ vs v w hv hp
  simp [pop] at hp
  subst hp
  have h1 := hv.take first.size
  have h2 := hv.drop first.size
  simp only [List.map_append] at h1 h2
  rw [show (List.map ρ first.toList ++ List.map ρ captured.toList).take first.size = List.map ρ first.toList by rw [List.take_append_of_le_length (by simp)]; exact List.take_of_length_le (by simp)] at h1
  rw [show (List.map ρ first.toList ++ List.map ρ captured.toList).drop first.size = List.map ρ captured.toList by rw [List.drop_append_of_le_length (by simp), List.drop_of_length_le (by simp), List.nil_append]] at h2
  exact ⟨.func fn (first.map ρ) (captured.map ρ), by simp [execOp, ho, Instr.makeFunc], .func _ _ _ _ _ (by simpa using h1) (by simpa using h2)⟩

theorem add_rel {i k : Nat} (h : i < n) {o' : Nat} : VR μ n (.pointer (some (addA ⟨i, o', none⟩ k))) (.pointer (some ((⟨(μ i).block, (μ i).base + o', none⟩ : Addr).add k))) := by
  unfold addA Addr.add
  split
  · exact .ptr _ _ h
  · simp only []
    rw [show (μ i).base + o' + k = (μ i).base + (o' + k) by omega]
    exact .ptr _ _ h

theorem ps_fieldAddr {t : TypeId} {x : Operand} {f : Nat} {fields : Array Field} {fd : Field} {m : Nat} (ht : P.underlying t = some (.struct fields)) (hf : fields[f]? = some fd) (hm : sizeT P fd.type = some (m + 1)) (ho : o.op = .fieldAddr t x f) :
    PSound P μ n o (.fieldAddr fd.offset) [x] := by
  intro ρ vs v w hv hp
  obtain ⟨a, rfl, ha⟩ := hv.inv1
  generalize hx : ρ x = x' at ha
  cases ha <;> simp [pop] at hp
  rename_i i o' h
  subst hp
  refine ⟨_, ?_, add_rel h⟩
  simp [execOp, ho, hx, Instr.fieldAt, r_under w ht, hf, Instr.sureAddr, fieldPlace, r_size w hm]

theorem part_sound {t : TypeId} {b : Bool} {m off : Nat} {cs : Array Value} {l : List Value} {v : Value} (w : World) (hb : aggT P t = some b) (hm : sizeT P t = some m) (hl : VRs μ n l cs.toList)
    (h : (if b then some (.agg ((l.drop off).take m).toArray) else l[off]?) = some v) : ∃ v', (part t cs off).run P w = .ok v' w ∧ VR μ n v v' := by
  cases b
  · simp at h
    obtain ⟨v', h1, h2⟩ := hl.get h
    refine ⟨v', ?_, h2⟩
    have h3 : cs[off]? = some v' := by simpa using h1
    simp [part, r_agg w hb, h3]
  · simp at h
    subst h
    refine ⟨.agg (cs.extract off (off + m)), by simp [part, r_agg w hb, r_size w hm], .agg _ _ ?_⟩
    have := (hl.drop off).take m
    simp only [Array.toList_extract, List.extract_eq_take_drop]
    rw [show off + m - off = m by omega]
    exact this

theorem ps_field {t : TypeId} {x : Operand} {f : Nat} {fields : Array Field} {fd : Field} {m : Nat} {b : Bool} (ht : P.underlying t = some (.struct fields)) (hf : fields[f]? = some fd) (hb : aggT P fd.type = some b) (hm : sizeT P fd.type = some m) (ho : o.op = .field t x f) :
    PSound P μ n o (.field b fd.offset m) [x] := by
  intro ρ vs v w hv hp
  obtain ⟨a, rfl, ha⟩ := hv.inv1
  generalize hx : ρ x = x' at ha
  cases ha <;> (try (cases b <;> simp [pop] at hp; done))
  rename_i cs cs' h
  have h' : (if b then some (.agg ((cs.toList.drop fd.offset).take m).toArray) else cs.toList[fd.offset]?) = some v := by cases b <;> simpa [pop] using hp
  obtain ⟨v', h1, h2⟩ := part_sound (P := P) w hb hm h h'
  exact ⟨v', by simp [execOp, ho, hx, Instr.field, r_under w ht, hf, asAgg, h1], h2⟩

theorem ps_indexAddr {t e : TypeId} {x i : Operand} {m : Nat} (ht : P.underlying t = some (.slice e)) (hm : sizeT P e = some m) (ho : o.op = .indexAddr t x i) : PSound P μ n o (.indexAddr m) [x, i] := by
  intro ρ vs v w hv hp
  obtain ⟨a, b, rfl, ha, hb⟩ := hv.inv2
  generalize hx : ρ x = x' at ha
  generalize hy : ρ i = y' at hb
  cases ha <;> cases hb <;> simp [pop] at hp
  case void.int => exact absurd hp.1 (by omega)
  rename_i j o1 o2 len cap cap' h h0 h1 h2 h3 h4 h5 k q
  obtain ⟨⟨hq1, hq2⟩, rfl⟩ := hp
  have hoo := h3 (Or.inl (by omega))
  subst hoo
  refine ⟨_, ?_, add_rel h⟩
  simp [execOp, ho, hx, hy, Instr.indexAt, asIntOf, r_under w ht, hq1, hq2, r_size w hm]

theorem ps_indexAddrArr {t e : TypeId} {x i : Operand} {m len : Nat} (ht : P.underlying t = some (.array len e)) (hm : sizeT P e = some m) (ho : o.op = .indexAddr t x i) : PSound P μ n o (.indexAddrArr len m) [x, i] := by
  intro ρ vs v w hv hp
  obtain ⟨a, b, rfl, ha, hb⟩ := hv.inv2
  generalize hx : ρ x = x' at ha
  generalize hy : ρ i = y' at hb
  cases ha <;> cases hb <;> simp [pop] at hp
  rename_i j o1 h k q
  obtain ⟨⟨hq1, hq2⟩, rfl⟩ := hp
  refine ⟨_, ?_, add_rel h⟩
  simp [execOp, ho, hx, hy, Instr.indexAt, asIntOf, r_under w ht, hq1, hq2, r_size w hm, Instr.sureAddr]

theorem ps_indexStr {t : TypeId} {x i : Operand} (ht : P.underlying t = some .string) (ho : o.op = .index t x i) : PSound P μ n o .indexStr [x, i] := by
  intro ρ vs v w hv hp
  obtain ⟨a, b, rfl, ha, hb⟩ := hv.inv2
  generalize hx : ρ x = x' at ha
  generalize hy : ρ i = y' at hb
  cases ha <;> cases hb <;> simp [pop] at hp
  rename_i s k q
  obtain ⟨hq, c, hc, rfl⟩ := hp
  refine ⟨_, ?_, .int _ _⟩
  have hg : s[q.toNat]? = some c := by
    rw [show s[q.toNat]? = s.data[q.toNat]? from ?_]
    · simpa using hc
    · rfl
  simp [execOp, ho, hx, hy, Instr.index, asIntOf, r_under w ht, hq, hg]

theorem ps_indexArr {t e : TypeId} {x i : Operand} {m len : Nat} {b : Bool} (ht : P.underlying t = some (.array len e)) (hb : aggT P e = some b) (hm : sizeT P e = some m) (ho : o.op = .index t x i) : PSound P μ n o (.indexArr len m b) [x, i] := by
  intro ρ vs v w hv hp
  obtain ⟨a, c, rfl, ha, hc⟩ := hv.inv2
  generalize hx : ρ x = x' at ha
  generalize hy : ρ i = y' at hc
  cases ha <;> cases hc <;> simp only [pop] at hp <;> (try (cases hp; done))
  rename_i cs cs' h k q
  split at hp
  · rename_i hq
    obtain ⟨v', h1, h2⟩ := part_sound (P := P) w hb hm h hp
    exact ⟨v', by simp [execOp, ho, hx, hy, Instr.index, asIntOf, r_under w ht, hq.1, hq.2, r_size w hm, h1], h2⟩
  · cases hp

theorem ps_extract {x : Operand} {i : Nat} (ho : o.op = .extract x i) : PSound P μ n o (.extract i) [x] := by
  intro ρ vs v w hv hp
  obtain ⟨a, rfl, ha⟩ := hv.inv1
  generalize hx : ρ x = x' at ha
  cases ha <;> simp [pop] at hp
  rename_i l l' h
  obtain ⟨v', h1, h2⟩ := h.get (j := i) (v := v) (by simpa using hp)
  have h3 : l'[i]? = some v' := by simpa using h1
  exact ⟨v', by simp [execOp, ho, hx, Instr.extract, h3], h2⟩

theorem ps_assertT {t tx : TypeId} {x : Operand} {z : Value} {ok : Bool} {d : TypeDesc} (ht : P.underlying t = some d) (hd : ∀ ms, d ≠ .interface ms) (hz : zeroT P t = some z) (ho : o.op = .typeAssert x tx t ok) : PSound P μ n o (.assertT t z ok) [x] := by
  intro ρ vs v w hv hp
  obtain ⟨a, rfl, ha⟩ := hv.inv1
  generalize hx : ρ x = x' at ha
  have hzr : VR μ n z z := plainV_rel (zeroT_spec hz).choose_spec.2.2
  cases ha <;> (try (cases ok <;> simp [pop] at hp; done))
  case iface u v1 v1' h =>
    simp only [pop] at hp
    by_cases hu : u = t
    · subst hu
      simp at hp
      subst hp
      refine ⟨if ok then .tuple #[v1', .bool true] else v1', ?_, ?_⟩
      · cases d <;> first | exact absurd rfl (hd _) | (cases ok <;> simp [execOp, ho, hx, Instr.typeAssert, r_under w ht])
      · cases ok
        · exact h
        · exact .tuple _ _ (.cons _ _ _ _ h (.cons _ _ _ _ (.bool _) .nil))
    · cases ok <;> simp [hu] at hp
      subst hp
      refine ⟨.tuple #[z, .bool false], ?_, .tuple _ _ (.cons _ _ _ _ hzr (.cons _ _ _ _ (.bool _) .nil))⟩
      cases d <;> first | exact absurd rfl (hd _) | simp [execOp, ho, hx, Instr.typeAssert, r_under w ht, hu, r_zero w hz]
  case nilIface =>
    cases ok <;> simp [pop] at hp
    subst hp
    refine ⟨.tuple #[z, .bool false], ?_, .tuple _ _ (.cons _ _ _ _ hzr (.cons _ _ _ _ (.bool _) .nil))⟩
    cases d <;> first | exact absurd rfl (hd _) | simp [execOp, ho, hx, Instr.typeAssert, r_under w ht, r_zero w hz]

end
end Go.Am
