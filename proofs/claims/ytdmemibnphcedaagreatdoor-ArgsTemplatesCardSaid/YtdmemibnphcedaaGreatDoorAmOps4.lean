/-
  The operations that read the heap, each held against the first machine's.
-/
import Derived.Test.YtdmemibnphcedaaGreatDoorAmOps3
import Derived.Laws.BytesString
import Derived.Laws.StructEq
set_option linter.unusedSimpArgs false
set_option linter.unusedVariables false
set_option maxRecDepth 10000
namespace Go.Am
open Go.RowKit (Below)

variable {P : Program} {B0 : Nat} {W0 : World} {μ : Nat → Spot} {s : St} {w : World} {o : Oper}

def RSound (P : Program) (B0 : Nat) (W0 : World) (μ : Nat → Spot) (s : St) (w : World) (o : Oper) (r : ROp) (xs : List Operand) : Prop :=
  ∀ (ρ : Operand → Value) (vs : List Value) (v : Value), Rel B0 W0 μ s w → VRs μ s.next vs (xs.map ρ) → rop r vs s = some v → ∃ v', (execOp ρ o).run P w = .ok (.value v') w ∧ VR μ s.next v v'

theorem add_eq (b o k : Nat) : (⟨b, o, none⟩ : Addr).add k = ⟨b, o + k, none⟩ := by unfold Addr.add; split <;> simp_all

theorem cells_rel (h : Rel B0 W0 μ s w) {i off k : Nat} {l : List Value} (hc : s.cells ⟨i, off, none⟩ k = some l) :
    ∃ l', l'.length = k ∧ VRs μ s.next l l' ∧ ∀ (j : Nat) (v : Value), l'[j]? = some v → w.cell? ((⟨(μ i).block, (μ i).base + off, none⟩ : Addr).add j) = some v := by
  unfold St.cells at hc
  simp only at hc
  split at hc
  · rename_i cs g ro hi
    split at hc
    · rename_i hlen
      simp at hc
      subst hc
      have hid := (h.known i _ hi).2.2
      have hcell : ∀ j, j < k → ∃ v v', cs[off + j]? = some v ∧ w.cell? ⟨(μ i).block, (μ i).base + off + j, none⟩ = some v' ∧ VR μ s.next v v' := fun j hj => by
        have hlt : off + j < cs.length := by omega
        obtain ⟨v', h1, h2⟩ := hid.cellAt (List.getElem?_eq_getElem hlt)
        exact ⟨_, v', List.getElem?_eq_getElem hlt, by rw [Nat.add_assoc]; exact h1, h2⟩
      refine ⟨(List.range k).map fun j => (w.cell? ⟨(μ i).block, (μ i).base + off + j, none⟩).getD undef, by simp, ?_, ?_⟩
      · refine VRs.of_get (by simp; omega) fun j v hj => ?_
        simp only [List.getElem?_take, List.getElem?_drop] at hj
        split at hj
        · rename_i hjk
          obtain ⟨v1, v', h1, h2, h3⟩ := hcell j hjk
          rw [h1] at hj
          simp at hj
          subst hj
          exact ⟨v', by simp [hjk, h2], h3⟩
        · cases hj
      · intro j v hj
        by_cases hjk : j < k
        · obtain ⟨v1, v', h1, h2, h3⟩ := hcell j hjk
          simp [hjk, h2] at hj
          subst hj
          rw [add_eq]
          exact h2
        · simp [hjk] at hj
    · cases hc
  · cases hc

theorem load_cells (h : Rel B0 W0 μ s w) {i off k : Nat} {l : List Value} (hc : s.cells ⟨i, off, none⟩ k = some l) :
    ∃ l', (loadCells ⟨(μ i).block, (μ i).base + off, none⟩ k).run P w = .ok l'.toArray w ∧ VRs μ s.next l l' := by
  obtain ⟨l', h1, h2, h3⟩ := cells_rel h hc
  subst h1
  exact ⟨l', run_loadCells_list (P := P) w _ l' h3, h2⟩

theorem rs_load1 {t : TypeId} {x : Operand} (ht : aggT P t = some false) (ho : o.op = .load t x) : RSound P B0 W0 μ s w o .load1 [x] := by
  intro ρ vs v h hv hp
  obtain ⟨a, rfl, ha⟩ := hv.inv1
  generalize hx : ρ x = x' at ha
  cases ha <;> simp [rop] at hp
  rename_i i off hi
  split at hp
  · rename_i cs g ro hget
    obtain ⟨v', h1, h2⟩ := (h.known i _ hget).2.2.cellAt hp
    exact ⟨v', by simp [execOp, ho, hx, Instr.loadAt, Instr.sureAddr, loadVar, r_agg w ht, run_load, h1], h2⟩
  · cases hp

theorem rs_loadN {t : TypeId} {x : Operand} {k : Nat} (ht : aggT P t = some true) (hk : sizeT P t = some k) (ho : o.op = .load t x) : RSound P B0 W0 μ s w o (.loadN k) [x] := by
  intro ρ vs v h hv hp
  obtain ⟨a, rfl, ha⟩ := hv.inv1
  generalize hx : ρ x = x' at ha
  cases ha <;> simp [rop] at hp
  rename_i i off hi
  obtain ⟨l, hl, rfl⟩ := hp
  obtain ⟨l', h1, h2⟩ := load_cells (P := P) h hl
  exact ⟨.agg l'.toArray, by simp [execOp, ho, hx, Instr.loadAt, Instr.sureAddr, loadVar, r_agg w ht, r_size w hk, h1], .agg _ _ (by simpa using h2)⟩

/-- the first machine's word for a kind of key -/
theorem keyT_desc {kt : TypeId} {kk : KeyK} (h : keyT P kt = some kk) : ∃ d, P.underlying kt = some d ∧ ((kk = .int ∧ ∃ k, d = .int k) ∨ (kk = .str ∧ d = .string) ∨ (kk = .bool ∧ d = .bool)) := by
  unfold keyT at h
  split at h
  · rename_i k hk; simp at h; subst h; exact ⟨_, hk, .inl ⟨rfl, _, rfl⟩⟩
  · rename_i hk; simp at h; subst h; exact ⟨_, hk, .inr (.inl ⟨rfl, rfl⟩)⟩
  · rename_i hk; simp at h; subst h; exact ⟨_, hk, .inr (.inr ⟨rfl, rfl⟩)⟩
  · cases h

theorem check_key {kt : TypeId} {kk : KeyK} (h : keyT P kt = some kk) (e : Bool) (k : Nat) (v : Value) (w : World) : (Instr.checkKey e (k + 1) kt v).run P w = .ok () w := by
  obtain ⟨d, hd, hk⟩ := keyT_desc h
  unfold Instr.checkKey
  simp only [Sem.run_bind, r_under w hd, Result.andThen_ok]
  rcases hk with ⟨_, k, rfl⟩ | ⟨_, rfl⟩ | ⟨_, rfl⟩ <;> simp

theorem same_sound {n : Nat} {kk : KeyK} {d : TypeDesc} (hd : (kk = .int ∧ ∃ k, d = .int k) ∨ (kk = .str ∧ d = .string) ∨ (kk = .bool ∧ d = .bool)) {x y x' y' : Value} {b : Bool} (hx : VR μ n x x') (hy : VR μ n y y') (h : sameV kk x y = some b) : Instr.sameNow d x' y' = some b := by
  unfold sameV at h
  split at h
  · rename_i k a k' b'
    cases hx; cases hy
    rcases hd with ⟨_, q, rfl⟩ | ⟨h1, _⟩ | ⟨h1, _⟩ <;> first | (cases h1; done) | skip
    simpa [Instr.sameNow] using h
  · rename_i a b'
    cases hx; cases hy
    rcases hd with ⟨h1, _⟩ | ⟨_, rfl⟩ | ⟨h1, _⟩ <;> first | (cases h1; done) | skip
    simp only [Option.some.injEq] at h
    rw [Instr.sameNow, beq_toListBytes, Go.ByteArray.toList_eq, Go.ByteArray.toList_eq, h]
  · rename_i a b'
    cases hx; cases hy
    rcases hd with ⟨h1, _⟩ | ⟨h1, _⟩ | ⟨_, rfl⟩ <;> first | (cases h1; done) | skip
    simpa [Instr.sameNow] using h
  · cases h

theorem find_sound {n c : Nat} {kk : KeyK} {d : TypeDesc} (hd : (kk = .int ∧ ∃ k, d = .int k) ∨ (kk = .str ∧ d = .string) ∨ (kk = .bool ∧ d = .bool)) {k k' : Value} (hk : VR μ n k k') : ∀ (es : List (Value × Value × Nat)) (es' : List MapEntry) (i : Nat) (r : Option (Nat × Value)),
    ER μ n c es es' → findV kk k es i = some r → (r = none ∧ Instr.findNow d k' es' i = some none) ∨ ∃ j v v' e', r = some (i + j, v) ∧ Instr.findNow d k' es' i = some (some (i + j, v')) ∧ VR μ n v v' ∧ es'[j]? = some e' ∧ e'.val = v' ∧ (∃ e, es[j]? = some e ∧ sameV kk k e.1 = some true ∧ VR μ n e.1 e'.key) ∧ j < es.length
  | [], [], i, r, _, h => by simp [findV] at h; subst h; exact .inl ⟨rfl, rfl⟩
  | e :: es, e' :: es', i, r, ⟨h1, h2, h3, h4, h5⟩, h => by
    simp only [findV] at h
    split at h
    · rename_i hs
      simp at h
      subst h
      exact .inr ⟨0, e.2.1, e'.val, e', by simp, by simp [Instr.findNow, same_sound hd hk h1 hs], h2, rfl, rfl, ⟨e, rfl, hs, h1⟩, by simp⟩
    · rename_i hs
      rcases find_sound hd hk es es' (i + 1) r h5 h with ⟨k1, k2⟩ | ⟨j, v, v', e1, k1, k2, k3, k4, k5, ⟨e0, k6, k7⟩, k8⟩
      · exact .inl ⟨k1, by simp [Instr.findNow, same_sound hd hk h1 hs, k2]⟩
      · exact .inr ⟨j + 1, v, v', e1, by rw [k1]; congr 2; omega, by simp only [Instr.findNow, same_sound hd hk h1 hs, k2]; congr 3; omega, k3, by simpa using k4, k5, ⟨e0, by simpa using k6, k7⟩, by simp; omega⟩
    · cases h
  | [], _ :: _, _, _, h, _ => h.elim
  | _ :: _, [], _, _, h, _ => h.elim

theorem ER.length {n c : Nat} : ∀ {es : List (Value × Value × Nat)} {es' : List MapEntry}, ER μ n c es es' → es'.length = es.length
  | [], [], _ => rfl
  | _ :: _, _ :: _, ⟨_, _, _, _, h⟩ => by simp [h.length]
  | [], _ :: _, h => h.elim
  | _ :: _, [], h => h.elim

theorem rs_lookup {t k e : TypeId} {x i : Operand} {kk : KeyK} {z : Value} {ok : Bool} (ht : P.underlying t = some (.map k e)) (hkk : keyT P k = some kk) (hz : zeroT P e = some z) (ho : o.op = .lookup t x i ok) :
    RSound P B0 W0 μ s w o (.lookup kk z ok) [x, i] := by
  intro ρ vs v h hv hp
  obtain ⟨a, b, rfl, ha, hb⟩ := hv.inv2
  generalize hx : ρ x = x' at ha
  generalize hy : ρ i = y' at hb
  have hzr : VR μ s.next z z := plainV_rel (zeroT_spec hz).choose_spec.2.2
  obtain ⟨d, hd, hdk⟩ := keyT_desc hkk
  have fin : ∀ {u u' : Value} (b : Bool), VR μ s.next u u' → VR μ s.next (bif ok then .tuple #[u, .bool b] else u) (if ok then .tuple #[u', .bool b] else u') := fun {u u'} b hu => by
    cases ok
    · exact hu
    · exact .tuple _ _ (.cons _ _ _ _ hu (.cons _ _ _ _ (.bool _) .nil))
  cases ha <;> simp only [rop] at hp <;> (try (cases hp; done))
  case nilMap =>
    split at hp
    · simp at hp
      subst hp
      refine ⟨_, ?_, fin false hzr⟩
      simp [execOp, ho, hx, hy, Instr.lookup, r_under w ht, check_key (k := 9999) hkk, Instr.findKey, r_under w hd, Instr.findNow, r_zero w hz]
    · cases hp
  case map r hr =>
    split at hp
    · rename_i es clock hget
      split at hp
      · obtain ⟨hB, es', h1, h2⟩ := (h.known r _ hget).2.2
        have hgo := MapKept.run_getObj_map (P := P) h1
        split at hp
        · rename_i j u hf
          simp at hp
          subst hp
          rcases find_sound hdk hb es es'.toList 0 _ h2 hf with ⟨k1, _⟩ | ⟨j', u1, u', e', k1, k2, k3, _⟩
          · cases k1
          · simp at k1
            obtain ⟨rfl, rfl⟩ := k1
            refine ⟨_, ?_, fin true k3⟩
            simp [execOp, ho, hx, hy, Instr.lookup, r_under w ht, hgo, check_key (k := 9999) hkk, MapKept.run_findKey hd k2]
        · rename_i hf
          simp at hp
          subst hp
          rcases find_sound hdk hb es es'.toList 0 _ h2 hf with ⟨_, k2⟩ | ⟨j', u1, u', e', k1, _⟩
          · refine ⟨_, ?_, fin false hzr⟩
            simp [execOp, ho, hx, hy, Instr.lookup, r_under w ht, hgo, check_key (k := 9999) hkk, MapKept.run_findKey hd k2, r_zero w hz]
          · cases k1
        · cases hp
      · cases hp
    · cases hp

theorem rs_lenMap {t k e : TypeId} {x : Operand} (ht : P.underlying t = some (.map k e)) (ho : o.op = .call { callee := .builtin .len, args := #[x], argTypes := #[t] }) : RSound P B0 W0 μ s w o .lenMap [x] := by
  intro ρ vs v h hv hp
  obtain ⟨a, rfl, ha⟩ := hv.inv1
  generalize hx : ρ x = x' at ha
  cases ha <;> simp only [rop] at hp <;> (try (cases hp; done))
  case nilMap =>
    simp at hp
    subst hp
    exact ⟨_, by simp [execOp, ho, resolve, invoke, builtin, Builtin.len_, hx, r_under w ht, goInt], .int _ _⟩
  case map r hr =>
    split at hp
    · rename_i es clock hget
      obtain ⟨hB, es', h1, h2⟩ := (h.known r _ hget).2.2
      simp at hp
      subst hp
      have hl := h2.length
      simp at hl
      refine ⟨_, ?_, .int _ _⟩
      simp [execOp, ho, resolve, invoke, builtin, Builtin.len_, hx, r_under w ht, goInt, MapKept.run_getObj_map h1, hl]
    · cases hp

theorem u8s_sound {n : Nat} : ∀ {l l' : List Value} {bs : List UInt8}, VRs μ n l l' → u8s l = some bs → ∃ ns : List Int, l' = ns.map (Value.int .u8) ∧ bs = ns.map fun n => UInt8.ofNat n.toNat
  | [], [], bs, _, h => by simp [u8s] at h; subst h; exact ⟨[], rfl, rfl⟩
  | x :: l, x' :: l', bs, .cons _ _ _ _ hx hs, h => by
    unfold u8s at h
    split at h
    · rename_i heq; simp at heq
    · rename_i n0 l0 heq
      simp at heq
      obtain ⟨rfl, rfl⟩ := heq
      cases hx
      simp at h
      obtain ⟨r, hr, rfl⟩ := h
      obtain ⟨ns, rfl, rfl⟩ := u8s_sound hs hr
      exact ⟨n0 :: ns, rfl, rfl⟩
    · cases h

theorem foldl_push (ns : List Int) : ∀ (acc : ByteArray), (ns.foldl (fun r n => r.push (UInt8.ofNat n.toNat)) acc).data.toList = acc.data.toList ++ ns.map fun n => UInt8.ofNat n.toNat := by
  induction ns with
  | nil => intro acc; simp
  | cons n ns ih =>
    intro acc
    rw [List.foldl_cons, ih]
    simp [ByteArray.push]

theorem rs_bytesToStr {t1 t2 e : TypeId} {x : Operand} (h1 : P.underlying t1 = some (.slice e)) (he : P.underlying e = some (.int .u8)) (h2 : P.underlying t2 = some .string) (ho : o.op = .convert t1 t2 x) : RSound P B0 W0 μ s w o .bytesToStr [x] := by
  intro ρ vs v h hv hp
  obtain ⟨a, rfl, ha⟩ := hv.inv1
  generalize hx : ρ x = x' at ha
  cases ha <;> simp only [rop] at hp <;> (try (cases hp; done))
  case nilSlice =>
    simp at hp
    subst hp
    exact ⟨_, by simp [execOp, ho, hx, run_convert_bytes_string w t1 t2 e none 0 0 h1 he h2, Conv.bytesToString], .string _⟩
  case void ad =>
    simp only [Option.bind_eq_some_iff, Option.map_eq_some_iff] at hp
    obtain ⟨cs, hcs, bs, hbs, rfl⟩ := hp
    have hcs0 : cs = [] := by
      unfold St.cells at hcs
      simp only at hcs
      split at hcs
      · split at hcs <;> simp at hcs; exact hcs
      · cases hcs
    subst hcs0
    simp [u8s] at hbs
    subst hbs
    refine ⟨.string ⟨#[]⟩, ?_, .string _⟩
    have hr := run_bytesToString (P := P) w ad 0 0 [] (by simp [loadCells, loadCellsFrom])
    simp [execOp, ho, hx, run_convert_bytes_string w t1 t2 e _ 0 0 h1 he h2, hr]
    rfl
  case slice i off off' len cap cap' hi q0 q1 q2 q3 q4 q5 =>
    simp only [Option.bind_eq_some_iff, Option.map_eq_some_iff] at hp
    obtain ⟨cs, hcs, bs, hbs, rfl⟩ := hp
    by_cases hlen : len = 0
    · subst hlen
      have hcs0 : cs = [] := by
        unfold St.cells at hcs
        simp only at hcs
        split at hcs
        · split at hcs <;> simp at hcs; exact hcs
        · cases hcs
      subst hcs0
      simp [u8s] at hbs
      subst hbs
      refine ⟨.string ⟨#[]⟩, ?_, .string _⟩
      have hr := run_bytesToString (P := P) w ⟨(μ i).block, off', none⟩ 0 cap' [] (by simp [loadCells, loadCellsFrom])
      simp [execOp, ho, hx, run_convert_bytes_string w t1 t2 e _ 0 cap' h1 he h2, hr]
      rfl
    · have hoo := q3 (.inl (by omega))
      subst hoo
      obtain ⟨l', k1, k2⟩ := load_cells (P := P) h hcs
      obtain ⟨ns, rfl, rfl⟩ := u8s_sound k2 hbs
      refine ⟨.string (ns.foldl (fun r n => r.push (UInt8.ofNat n.toNat)) ByteArray.empty), ?_, ?_⟩
      · simp [execOp, ho, hx, run_convert_bytes_string w t1 t2 e _ len cap' h1 he h2, run_bytesToString w _ len cap' ns k1]
      · have : (ns.foldl (fun r n => r.push (UInt8.ofNat n.toNat)) ByteArray.empty) = ⟨(ns.map fun n => UInt8.ofNat n.toNat).toArray⟩ := by
          have := foldl_push ns ByteArray.empty
          cases hq : (ns.foldl (fun r n => r.push (UInt8.ofNat n.toNat)) ByteArray.empty) with
          | mk data =>
            rw [hq] at this
            simp at this
            congr 1
            apply Array.toList_inj.1
            simpa using this
        rw [this]
        exact .string _

theorem addA_rel (i o k : Nat) : addA ⟨i, o, none⟩ k = ⟨i, o + k, none⟩ := by unfold addA; split <;> simp_all

theorem rs_sl {t e : TypeId} {x : Operand} {lo hi : Option Operand} {m : Nat} (ht : P.underlying t = some (.slice e)) (hm : sizeT P e = some m) (ho : o.op = .slice t x lo hi none) :
    RSound P B0 W0 μ s w o (.sl m lo.isSome hi.isSome) (x :: (lo.toList ++ hi.toList)) := by
  intro ρ vs v h hv hp
  obtain ⟨a, as, rfl, ha, has⟩ := hv.invc
  generalize hx : ρ x = x' at ha
  cases ha <;> simp only [rop] at hp <;> (try (cases hp; done))
  case nilSlice =>
    simp at hp
    obtain ⟨⟨l, h', hb⟩, rfl⟩ := hp
    obtain ⟨h1, h2, h3⟩ := bounds_sound (P := P) w true has (Nat.le_refl _) (Nat.le_refl _) hb
    have hl : l = 0 := by omega
    have hh : h' = 0 := by omega
    subst hl; subst hh
    exact ⟨_, by simp [execOp, ho, hx, Instr.sliceAt, Instr.slice, r_under w ht, h1, r_size w hm], .nilSlice⟩
  case void ad =>
    simp at hp
    obtain ⟨l, h', hb, rfl⟩ := hp
    obtain ⟨h1, h2, h3⟩ := bounds_sound (P := P) w true has (Nat.le_refl _) (Nat.le_refl _) hb
    have hl : l = 0 := by omega
    have hh : h' = 0 := by omega
    subst hl; subst hh
    exact ⟨_, by simp [execOp, ho, hx, Instr.sliceAt, Instr.slice, r_under w ht, h1, r_size w hm], .void ad⟩
  case slice i off off' len cap cap' hi' q0 q1 q2 q3 q4 q5 =>
    split at hp
    · rename_i hz
      subst hz
      simp at hp
      obtain ⟨l, h', hb, rfl⟩ := hp
      obtain ⟨h1, h2, h3⟩ := bounds_sound (P := P) w true has q0 q1 hb
      have hl : l = 0 := by omega
      have hh : h' = 0 := by omega
      subst hl; subst hh
      refine ⟨.slice (some (if cap' = 0 then ⟨(μ i).block, off', none⟩ else (⟨(μ i).block, off', none⟩ : Addr).add (0 * m))) (0 - 0) (cap' - 0), ?_, ?_⟩
      · by_cases hc : cap' = 0
        · subst hc; simp [execOp, ho, hx, Instr.sliceAt, Instr.slice, r_under w ht, h1, r_size w hm]
        · simp [execOp, ho, hx, Instr.sliceAt, Instr.slice, r_under w ht, h1, r_size w hm, hc]
      · simp only [Nat.zero_mul, add_eq, Nat.add_zero, ite_self, Nat.sub_zero]
        exact .slice _ _ _ _ _ _ hi' (Nat.le_refl _) q1 q2 q3 q4 q5
    split at hp
    · rename_i cs g ro hget
      have hg := (h.known i _ hget).2.2.1
      split at hp
      · rename_i hgm
        simp at hp
        obtain ⟨l, h', hb, rfl⟩ := hp
        obtain ⟨h1, h2, h3⟩ := bounds_sound (P := P) w true has q0 q1 hb
        refine ⟨.slice (some (if cap' = l then ⟨(μ i).block, off', none⟩ else (⟨(μ i).block, off', none⟩ : Addr).add (l * m))) (h' - l) (cap' - l), ?_, ?_⟩
        · by_cases hc : cap' = l
          · subst hc; simp [execOp, ho, hx, Instr.sliceAt, Instr.slice, r_under w ht, h1, r_size w hm]
          · simp [execOp, ho, hx, Instr.sliceAt, Instr.slice, r_under w ht, h1, r_size w hm, hc]
        · by_cases hc : cap = l
          · subst hc
            by_cases hc' : cap' = cap
            · simp only [hc', if_true]
              exact .slice _ _ _ _ _ _ hi' (by omega) (Nat.le_refl _) (fun _ => rfl) (fun hh => q3 (by rcases hh with hh | hh; exact .inl (by omega); exact .inr hh)) q4 (fun hh => by have := q5 hh; simp; omega)
            · simp only [hc', if_true, if_false, add_eq]
              have hng : (μ i).grown ≠ 0 := fun e => hc' (q2 e)
              have hgm' : g = m := by rcases hgm with e | e; exact absurd (hg.trans e) hng; exact e
              refine .slice _ _ _ _ _ _ hi' (by omega) (by omega) (fun e => absurd e hng) (fun hh => by rcases hh with hh | hh; omega; exact absurd hh hng) (by omega) (fun hh => ?_)
              have := q5 hh
              rw [hg, hgm'] at this ⊢
              have e1 : cap' * m = cap * m + (cap' - cap) * m := by rw [← Nat.add_mul]; congr 1; omega
              omega
          · have hc' : cap' ≠ l := by omega
            have hoo := q3 (.inl (by omega))
            simp only [hc, hc', if_false, add_eq, addA_rel]
            refine .slice _ _ _ _ _ _ hi' (by omega) (by omega) (fun e => by rw [q2 e]) (fun _ => by omega) (by omega) (fun hh => ?_)
            have hgm' : g = m := by rcases hgm with e | e; exact absurd (hg.trans e) hh; exact e
            have := q5 hh
            rw [hg, hgm'] at this ⊢
            have e1 : cap' * m = l * m + (cap' - l) * m := by rw [← Nat.add_mul]; congr 1; omega
            omega
      · cases hp
    · cases hp

theorem rs_slArr {t e : TypeId} {x : Operand} {lo hi : Option Operand} {len m : Nat} (ht : P.underlying t = some (.array len e)) (hm : sizeT P e = some m) (ho : o.op = .slice t x lo hi none) :
    RSound P B0 W0 μ s w o (.slArr len m lo.isSome hi.isSome) (x :: (lo.toList ++ hi.toList)) := by
  intro ρ vs v h hv hp
  obtain ⟨a, as, rfl, ha, has⟩ := hv.invc
  generalize hx : ρ x = x' at ha
  cases ha <;> simp only [rop] at hp <;> (try (cases hp; done))
  case ptr i off hi' =>
    split at hp
    · rename_i cs ro hget
      have hg := (h.known i _ hget).2.2.1
      simp at hp
      obtain ⟨l, h', hb, rfl⟩ := hp
      obtain ⟨h1, h2, h3⟩ := bounds_sound (P := P) w false has (Nat.le_refl _) (Nat.le_refl _) hb
      refine ⟨.slice (some (if len = l then ⟨(μ i).block, (μ i).base + off, none⟩ else (⟨(μ i).block, (μ i).base + off, none⟩ : Addr).add (l * m))) (h' - l) (len - l), ?_, ?_⟩
      · by_cases hc : len = l
        · subst hc; simp [execOp, ho, hx, Instr.sliceAt, Instr.sureAddr, r_under w ht, h1, r_size w hm]
        · simp [execOp, ho, hx, Instr.sliceAt, Instr.sureAddr, r_under w ht, h1, r_size w hm, hc]
      · by_cases hc : len = l
        · simp only [hc, if_true]
          exact .slice _ _ _ _ _ _ hi' (by omega) (Nat.le_refl _) (fun _ => rfl) (fun _ => rfl) (by omega) (fun hh => absurd hg hh)
        · simp only [hc, if_false, add_eq, addA_rel]
          exact .slice _ _ _ _ _ _ hi' (by omega) (Nat.le_refl _) (fun _ => rfl) (fun _ => by omega) (by omega) (fun hh => absurd hg hh)
    · cases hp

theorem find_entry {n c st : Nat} : ∀ {es : List (Value × Value × Nat)} {es' : List MapEntry} {e : Value × Value × Nat}, ER μ n c es es' → es.find? (·.2.2 == st) = some e → ∃ e', es'.find? (·.born == st) = some e' ∧ VR μ n e.1 e'.key ∧ VR μ n e.2.1 e'.val
  | [], [], _, _, h => by simp at h
  | x :: es, x' :: es', e, ⟨h1, h2, h3, _, h5⟩, h => by
    simp only [List.find?_cons] at h ⊢
    rw [h3]
    cases hc : (x.2.2 == st)
    · rw [hc] at h
      exact find_entry h5 h
    · rw [hc] at h
      simp at h
      subst h
      exact ⟨x', rfl, h1, h2⟩
  | [], _ :: _, _, h, _ => h.elim
  | _ :: _, [], _, h, _ => h.elim

theorem rs_entry {x : Operand} (ho : o.op = .entry x) : RSound P B0 W0 μ s w o .entry [x] := by
  intro ρ vs v h hv hp
  obtain ⟨a, rfl, ha⟩ := hv.inv1
  generalize hx : ρ x = x' at ha
  cases ha <;> simp only [rop] at hp <;> (try (cases hp; done))
  case ptr i off hi =>
    split at hp <;> (try (cases hp; done))
    rename_i m since seen last hget
    split at hp <;> (try (cases hp; done))
    rename_i es clock hgetm
    split at hp <;> (try (cases hp; done))
    rename_i hcond
    obtain ⟨rfl, rfl⟩ := hcond
    split at hp <;> (try (cases hp; done))
    rename_i st hst
    simp only [Option.map_eq_some_iff] at hp
    obtain ⟨e, he, rfl⟩ := hp
    obtain ⟨_, hb0, _, hit⟩ := (h.known i _ hget).2.2
    obtain ⟨_, es', hm1, hm2⟩ := (h.known m _ hgetm).2.2
    obtain ⟨e', k1, k2, k3⟩ := find_entry hm2 he
    have hgo1 : (getObj (μ i).block).run P w = .ok (.mapIter (some (μ m).block) since seen.toArray clock) w := by simp [getObj, Sem.run, hit]
    have hgo2 := MapKept.run_getObj_map (P := P) hm1
    have hback : seen.toArray.back? = some st := by simpa using hst
    have hfind : es'.find? (·.born == st) = some e' := by rw [← Array.find?_toList]; exact k1
    exact ⟨.tuple #[e'.key, e'.val], by simp [execOp, ho, hx, hb0, Instr.entry, hgo1, hgo2, hback, hfind], .tuple _ _ (.cons _ _ _ _ k2 (.cons _ _ _ _ k3 .nil))⟩

theorem rop_sound {r : ROp} {xs : List Operand} (hc : compOp P o.op = some (.r r, xs)) : RSound P B0 W0 μ s w o r xs := by
  cases ho : o.op with
  | load t a =>
    simp only [ho, compOp, Option.bind_eq_some_iff] at hc
    obtain ⟨b, hb, hc⟩ := hc
    cases b
    · simp at hc; obtain ⟨rfl, rfl⟩ := hc; exact rs_load1 hb ho
    · simp at hc; obtain ⟨k, hk, rfl, rfl⟩ := hc; exact rs_loadN hb hk ho
  | lookup t x i ok =>
    simp only [ho, compOp] at hc
    split at hc
    · rename_i k e ht
      simp only [Option.bind_eq_some_iff, Option.map_eq_some_iff, Prod.mk.injEq, AOp.r.injEq] at hc
      obtain ⟨kk, hkk, z, hz, rfl, rfl⟩ := hc
      exact rs_lookup ht hkk hz ho
    · cases hc
  | entry x => simp [ho, compOp] at hc; obtain ⟨rfl, rfl⟩ := hc; exact rs_entry ho
  | slice t x lo hi mx =>
    simp only [ho, compOp] at hc
    split at hc
    · simp at hc
    · rename_i e ht; simp at hc; obtain ⟨m, hm, rfl, rfl⟩ := hc; exact rs_sl ht hm ho
    · rename_i k e ht; simp at hc; obtain ⟨m, hm, rfl, rfl⟩ := hc; exact rs_slArr ht hm ho
    · split at hc <;> simp at hc
    · cases hc
  | convert a b x =>
    simp only [ho, compOp] at hc
    split at hc
    · simp at hc
    · split at hc <;> simp at hc
    · rename_i e h1 h2
      split at hc
      · rename_i he; simp at hc; obtain ⟨rfl, rfl⟩ := hc; exact rs_bytesToStr h1 he h2 ho
      · cases hc
    · cases hc
  | call c =>
    simp only [ho, compOp, compCall] at hc
    split at hc
    · simp at hc
    · simp at hc
    · simp at hc
    · rename_i b hb
      split at hc
      · rename_i t x h2 h3
        have hcall := call_eq hb h2 h3
        rw [hcall] at ho
        split at hc
        · simp at hc
        · simp at hc
        · rename_i ht; simp at hc; obtain ⟨rfl, rfl⟩ := hc; exact rs_lenMap ht (by simpa using ho)
        · simp at hc
        · cases hc
      · split at hc
        · simp only [Option.bind_eq_some_iff] at hc
          obtain ⟨_, _, _, _, _, _, hc⟩ := hc
          split at hc <;> simp at hc
        · simp only [Option.bind_eq_some_iff] at hc
          obtain ⟨_, _, _, _, _, _, hc⟩ := hc
          split at hc <;> simp at hc
        · cases hc
      · split at hc
        · simp at hc
        · cases hc
      · split at hc
        · simp at hc
        · cases hc
      · simp at hc
      · simp at hc
      · cases hc
  | build t parts =>
    simp only [ho, compOp] at hc
    split at hc <;> first | (cases hc; done) | (simp only [Option.bind_eq_some_iff, Option.map_eq_some_iff, Prod.mk.injEq, reduceCtorEq, false_and, and_false, exists_false] at hc)
  | binOp op t x y t2 =>
    simp only [ho, compOp] at hc
    split at hc
    · simp at hc
    · simp at hc
    · split at hc <;> simp at hc
    · split at hc
      · split at hc
        · split at hc <;> simp at hc
        · cases hc
      · cases hc
    · cases hc
  | makeInterface t x => simp only [ho, compOp] at hc; split at hc <;> simp at hc
  | fieldAddr t x f =>
    simp only [ho, compOp] at hc
    split at hc
    · split at hc
      · split at hc <;> simp at hc
      · cases hc
    · cases hc
  | field t x f =>
    simp only [ho, compOp] at hc
    split at hc
    · split at hc
      · simp only [Option.bind_eq_some_iff, Option.map_eq_some_iff, Prod.mk.injEq, reduceCtorEq, false_and, and_false, exists_false] at hc
      · cases hc
    · cases hc
  | indexAddr t x i => simp only [ho, compOp] at hc; split at hc <;> simp at hc
  | index t x i =>
    simp only [ho, compOp] at hc
    split at hc
    · simp at hc
    · simp only [Option.bind_eq_some_iff, Option.map_eq_some_iff, Prod.mk.injEq, reduceCtorEq, false_and, and_false, exists_false] at hc
    · cases hc
  | typeAssert x tx t ok => simp only [ho, compOp] at hc; split at hc <;> simp at hc
  | buildSlice t len parts =>
    simp only [ho, compOp] at hc
    split at hc
    · simp only [Option.bind_eq_some_iff] at hc
      obtain ⟨_, _, _, _, _, _, hc⟩ := hc
      split at hc <;> simp at hc
    · cases hc
  | alloc e =>
    simp only [ho, compOp, Option.bind_eq_some_iff] at hc
    obtain ⟨z, _, hc⟩ := hc
    split at hc <;> simp at hc
  | makeSlice t l c =>
    simp only [ho, compOp] at hc
    split at hc
    · simp only [Option.bind_eq_some_iff] at hc
      obtain ⟨_, _, _, _, _, _, hc⟩ := hc
      split at hc <;> simp at hc
    · cases hc
  | makeMap t r => cases r <;> simp [ho, compOp] at hc
  | mapUpdate t m k x => simp only [ho, compOp] at hc; split at hc <;> simp at hc
  | insert t m k x => simp only [ho, compOp] at hc; split at hc <;> simp at hc
  | range t x => simp only [ho, compOp] at hc; split at hc <;> simp at hc
  | _ => simp [ho, compOp] at hc

end Go.Am
