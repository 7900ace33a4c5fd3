/-
  append, copy.
-/
import Derived.Test.YtdmemibnphcedaaGreatDoorAmOps6
set_option linter.unusedSimpArgs false
set_option linter.unusedVariables false
set_option maxRecDepth 10000
namespace Go.Am
open Go.RowKit (Below)

variable {P : Program} {B0 : Nat} {W0 : World} {μ : Nat → Spot} {s : St} {w : World} {o : Oper}

theorem growBy_le (newLen : Nat) : ∀ (r c : Nat), Builtin.growBy newLen r c ≤ max c (newLen + (newLen + 768) / 4)
  | 0, c => by simp [Builtin.growBy]; omega
  | r + 1, c => by
    unfold Builtin.growBy
    split
    · omega
    · have := growBy_le newLen r (c + (c + 768) / 4)
      omega

theorem nextcap_le (newLen oldCap : Nat) (h : oldCap < newLen) : Builtin.nextslicecap newLen oldCap ≤ 2 * newLen + 192 := by
  unfold Builtin.nextslicecap
  split
  · omega
  · split
    · omega
    · have := growBy_le newLen 4 oldCap
      omega

/-- an append that makes a new row, as the first machine runs it -/
theorem append_grows {t u e ty : TypeId} {esz bytes n need sLen cap : Nat} {z : Value} {base : Option Addr} {x : Value} {old new : List Value} (ht : P.underlying t = some (.slice e)) (hu : (∃ e', P.underlying u = some (.slice e')) ∨ P.underlying u = some .string) (hz : zeroT P e = some z)
    (hm : sizeT P e = some esz) (hb : bytesT P e = some bytes) (hlen : (Builtin.lenOf x).run P w = .ok n w) (hneed : need = sLen + n) (hcap : cap < need) (hbig : need * bytes ≤ 1099511627776) (hbig2 : need ≤ 1099511627776) (hn : 0 < n)
    (e1 : (Builtin.firstCells esz sLen (.slice base sLen cap)).run P w.drew = .ok old.toArray w.drew) (e2 : (Builtin.firstCells esz n x).run P w.drew = .ok new.toArray w.drew) :
    ∃ c k, need ≤ c ∧ k = Builtin.zeroCells z.cells (c - need) ∧ (Builtin.append_ #[t, u] ty #[.slice base sLen cap, x]).run P w =
      .ok (.slice (some ⟨w.heap.size, 0, none⟩) need c) (w.drew.alloc (.cells (old.toArray ++ new.toArray ++ k) e)) := by
  obtain ⟨i, hi, hiz, _⟩ := zeroT_spec hz
  have hib : i.bytes = bytes := by simp [bytesT, hi] at hb; exact hb
  have hgew : need ≤ (Question.appendCap need cap e).cut (w.tape w.drawn (.appendCap need cap e)) := by simp only [Question.cut]; omega
  refine ⟨_, _, hgew, rfl, ?_⟩
  subst hneed
  have hle : ¬ sLen + n ≤ cap := by omega
  have h63' : ¬ (9223372036854775807 < ((sLen : Int) + (n : Int))) := by omega
  have h2 : ¬ (281474976710656 < Builtin.nextslicecap (sLen + n) cap * bytes) := by
    have h3 := nextcap_le (sLen + n) cap hcap
    have h4 : Builtin.nextslicecap (sLen + n) cap * bytes ≤ (2 * (sLen + n) + 192) * bytes := Nat.mul_le_mul_right _ h3
    have h5 : bytes ≤ (sLen + n) * bytes := Nat.le_mul_of_pos_left _ (by omega)
    have h6 : (2 * (sLen + n) + 192) * bytes = 2 * ((sLen + n) * bytes) + 192 * bytes := by rw [Nat.add_mul, Nat.mul_assoc]
    omega
  have hroom : ∀ (k : Nat) (w : World), (askRoom k).run P w = .ok () w := fun k w => by unfold askRoom; split <;> rfl
  rcases hu with ⟨e', hu⟩ | hu
  · simp [Builtin.append_, r_under w ht, r_under w hu, r_size w hm, hlen, hle, r_info w hi, r_info w.drew hi, zeroValue, hiz, hib, h63', h2, Question.forced, hroom, e1, e2, newRow]
    congr 2
    apply Array.ext'
    simp [List.append_assoc]
  · simp [Builtin.append_, r_under w ht, r_under w hu, r_size w hm, hlen, hle, r_info w hi, r_info w.drew hi, zeroValue, hiz, hib, h63', h2, Question.forced, hroom, e1, e2, newRow]
    congr 2
    apply Array.ext'
    simp [List.append_assoc]

/-- an append within the capacity -/
theorem append_fits {t u e ty : TypeId} {esz n sLen cap : Nat} {base : Option Addr} {x : Value} {new : List Value} {w' : World} (ht : P.underlying t = some (.slice e)) (hu : (∃ e', P.underlying u = some (.slice e')) ∨ P.underlying u = some .string)
    (hm : sizeT P e = some esz) (hlen : (Builtin.lenOf x).run P w = .ok n w) (hle : sLen + n ≤ cap) (hnew : (Builtin.firstCells esz n x).run P w = .ok new.toArray w)
    (hst : (base = none ∧ w' = w) ∨ ∃ a, base = some a ∧ (storeCells (a.add (sLen * esz)) new).run P w = .ok () w') :
    (Builtin.append_ #[t, u] ty #[.slice base sLen cap, x]).run P w = .ok (.slice base (sLen + n) cap) w' := by
  rcases hu with ⟨e', hu⟩ | hu
  · rcases hst with ⟨rfl, rfl⟩ | ⟨a, rfl, hst⟩
    · simp [Builtin.append_, r_under w' ht, r_under w' hu, r_size w' hm, hlen, hle, hnew]
    · simp [Builtin.append_, r_under w ht, r_under w hu, r_size w hm, hlen, hle, hnew, hst]
  · rcases hst with ⟨rfl, rfl⟩ | ⟨a, rfl, hst⟩
    · simp [Builtin.append_, r_under w' ht, r_under w' hu, r_size w' hm, hlen, hle, hnew]
    · simp [Builtin.append_, r_under w ht, r_under w hu, r_size w hm, hlen, hle, hnew, hst]

theorem Rel.congr {s1 : St} (h : Rel B0 W0 μ s w) (hn : s1.next = s.next) (hg : ∀ i, s1.get i = s.get i) : Rel B0 W0 μ s1 w :=
  ⟨h.low, h.below, fun i o hi => by rw [hn]; exact h.known i o (by rw [← hg]; exact hi), fun i j oi oj hij hi hj => h.apart i j oi oj hij (by rw [← hg]; exact hi) (by rw [← hg]; exact hj)⟩

/-- a grown slice in a block of its own: what the first machine's new row is -/
theorem grown_after {w1 : World} (h : Rel B0 W0 μ s w1) {esz n c : Nat} {cs l k : List Value} {e : TypeId} (hcs : VRs μ s.next cs l) (hn : n ≤ c) (hlen : l.length + k.length = c * esz) (he : esz ≠ 0) :
    After B0 W0 μ s (s.grow esz n cs).1 (s.grow esz n cs).2 (.slice (some ⟨w1.heap.size, 0, none⟩) n c) (w1.alloc (.cells (l.toArray ++ k.toArray) e)) := by
  refine ⟨_, upd_agree _ _, h.newRow cs esz (l.toArray ++ k.toArray) e (0, 0) (fun j v hj => ?_) (by have := hcs.length; simp; omega) (fun x _ => by simp), ?_⟩
  · obtain ⟨v', h1, h2⟩ := hcs.get hj
    refine ⟨v', ?_, h2⟩
    have hlt : j < l.length := by
      rcases Nat.lt_or_ge j l.length with hh | hh
      · exact hh
      · rw [List.getElem?_eq_none hh] at h1; cases h1
    rw [Array.getElem?_append_left (by simpa using hlt)]
    simpa using h1
  · have := VR.slice (μ := upd μ s.next ⟨w1.heap.size, 0, (l.toArray ++ k.toArray).size, esz⟩) (n := s.next + 1) s.next 0 0 n n c (by omega) (Nat.le_refl _) hn (fun hh => by simp [upd_same] at hh; exact absurd hh he) (fun _ => by simp [upd_same]) (by simp [upd_same]) (fun _ => by simp [upd_same]; omega)
    simpa [upd_same, St.grow] using this

theorem zeroCells_length (z : Array Value) (n : Nat) : (Builtin.zeroCells z n).toList.length = n * z.size := by simp [Builtin.zeroCells]

theorem ws_append {t u e : TypeId} {esz bytes : Nat} {x y : Operand} {z : Value} (ht : P.underlying t = some (.slice e)) (hu : (∃ e', P.underlying u = some (.slice e')) ∨ P.underlying u = some .string) (hz : zeroT P e = some z) (hm : sizeT P e = some esz) (hb : bytesT P e = some bytes)
    (hzm : (cellsOf z).length = esz) (ho : o.op = .call { callee := .builtin .append, args := #[x, y], argTypes := #[t, u] }) : WSound P B0 W0 μ s w o (.append esz bytes) [x, y] := by
  intro ρ vs v s' h hv hp
  obtain ⟨a, b, rfl, ha, hb'⟩ := hv.inv2
  have hzs : z.cells.size = esz := by rw [← hzm]; cases z <;> simp [Value.cells, cellsOf]
  have hexec : (execOp ρ o).run P w = ((Builtin.append_ #[t, u] o.type #[ρ x, ρ y]).run P w).andThen fun v w' => .ok (.value v) w' := by
    simp [execOp, ho, resolve, invoke, builtin]
  have fin : ∀ {v' : Value} {w' : World}, (Builtin.append_ #[t, u] o.type #[ρ x, ρ y]).run P w = .ok v' w' → Did P ρ o w v' w' := fun hr => .inl (by rw [hexec, hr]; rfl)
  simp only [wop, appendV] at hp
  split at hp <;> (try (cases hp; done))
  rename_i n new hn hl
  obtain ⟨hlen, hfirst⟩ := src_sound (P := P) h hb' hn hl
  -- the appended cells, whole
  have hnlen : new.length = n * esz := by
    revert hb'
    generalize ρ y = y'
    intro hb'
    cases hb' <;> simp [srcLen] at hn <;> simp only [St.srcCells] at hl
    case string b1 =>
      split at hl
      · simp at hl; subst hl; subst hn; rename_i he; simp [he]
      · cases hl
    case nilSlice => simp at hl; subst hl; subst hn; simp
    case void ad => simp at hl; subst hl; subst hn; simp
    case slice i off off' len cap cap' hi q0 q1 q2 q3 q4 q5 =>
      subst hn
      split at hl
      · rename_i h0; simp at hl; subst hl; simp [h0]
      unfold St.cells at hl
      simp only at hl
      split at hl
      · split at hl
        · simp at hl; subst hl; simp; omega
        · cases hl
      · cases hl
  obtain ⟨new', hnf, hnr⟩ := hfirst n (Nat.le_refl _)
  rw [List.take_of_length_le (by omega)] at hnr
  have hnl := hnr.length
  obtain ⟨new2, hnf2, hnr2⟩ := (src_sound (P := P) (h.drew (w.drawn + 1)) hb' hn hl).2 n (Nat.le_refl _)
  rw [List.take_of_length_le (by omega)] at hnr2
  have hnl2 := hnr2.length
  split at hp
  · -- nothing is appended
    rename_i hn0
    subst hn0
    have hn' : new' = [] := List.length_eq_zero_iff.1 (by rw [hnl, hnlen]; simp)
    subst hn'
    generalize hx : ρ x = x' at ha fin
    cases ha <;> simp only at hp <;> (try (cases hp; done))
    case nilSlice =>
      simp at hp
      obtain ⟨rfl, rfl⟩ := hp
      exact ⟨_, _, fin (append_fits (P := P) ht hu hm hlen (by omega) hnf (.inl ⟨rfl, rfl⟩)), μ, Agree.refl _ _, h, .nilSlice⟩
    case void ad =>
      simp at hp
      obtain ⟨rfl, rfl⟩ := hp
      exact ⟨_, _, fin (append_fits (P := P) ht hu hm hlen (by omega) hnf (.inr ⟨_, rfl, by simp [storeCells]⟩)), μ, Agree.refl _ _, h, .void ad⟩
    case slice i off off' len cap cap' hi q0 q1 q2 q3 q4 q5 =>
      simp at hp
      obtain ⟨rfl, rfl⟩ := hp
      exact ⟨_, _, fin (append_fits (P := P) ht hu hm hlen (by omega) hnf (.inr ⟨_, rfl, by simp [storeCells]⟩)), μ, Agree.refl _ _, h, .slice _ _ _ _ _ _ hi q0 q1 q2 q3 q4 q5⟩
  · rename_i hn0
    split at hp <;> (try (cases hp; done))
    rename_i hcond
    have hesz : esz ≠ 0 := fun e => hcond (.inl e)
    have hone : new.all oneCell = true := by
      have : ¬ ¬ new.all oneCell = true := fun e => hcond (.inr (by simpa using e))
      simpa using this
    generalize hx : ρ x = x' at ha fin
    cases ha <;> simp only at hp <;> (try (cases hp; done))
    case nilSlice =>
      split at hp <;> (try (cases hp; done))
      rename_i hbig
      simp only [Option.some.injEq] at hp
      obtain ⟨c, k, h1, rfl, h3⟩ := append_grows (P := P) (ty := o.type) (base := none) (sLen := 0) (cap := 0) (old := []) (need := n) ht hu hz hm hb hlen (by omega) (by omega) hbig.1 hbig.2 (by omega) (by simp [Builtin.firstCells]) hnf2
      have haf := grown_after (w1 := w.drew) (h.drew _) (e := e) (k := (Builtin.zeroCells z.cells (c - n)).toList) hnr2 h1 (by rw [zeroCells_length, hnl2, hnlen, hzs, ← Nat.add_mul]; congr 1; omega) hesz
      rw [hp] at haf
      refine ⟨_, _, fin h3, ?_⟩
      simpa using haf
    case slice i off off' len cap cap' hi q0 q1 q2 q3 q4 q5 =>
      split at hp <;> (try (cases hp; done))
      rename_i hbig
      split at hp <;> (try (cases hp; done))
      rename_i cs g ro old hget hold
      have hoo : 0 < len → off' = (μ i).base + off := fun hl => q3 (.inl (by omega))
      have holdlen : old.length = len * esz := by
        unfold St.cells at hold
        simp only [hget] at hold
        split at hold
        · simp at hold; subst hold; simp; omega
        · cases hold
      have hid := (h.known i _ hget).2.2
      have hgr : (μ i).grown = g := hid.1
      -- the old cells, read by the first machine
      have hrd : ∀ w' : World, Rel B0 W0 μ s w' → ∃ old', (loadCells ⟨(μ i).block, off', none⟩ (len * esz)).run P w' = .ok old'.toArray w' ∧ VRs μ s.next old old' := fun w' h' => by
        by_cases hl0 : len * esz = 0
        · have : old = [] := List.length_eq_zero_iff.1 (by rw [holdlen, hl0])
          subst this
          exact ⟨[], by rw [hl0]; simp [loadCells, loadCellsFrom], .nil⟩
        · have hl1 : 0 < len := by rcases Nat.eq_zero_or_pos len with e | e; simp [e] at hl0; exact e
          rw [hoo hl1]
          exact load_cells (P := P) h' hold
      obtain ⟨old', hold', holdr⟩ := hrd w h
      obtain ⟨old2, hold2, holdr2⟩ := hrd w.drew (h.drew _)
      have hol := holdr.length
      have hol2 := holdr2.length
      have growsTo : ∀ s1 : St, s1.next = s.next → Rel B0 W0 μ s1 w → cap' < len + n → ∃ v' w', Did P ρ o w v' w' ∧ After B0 W0 μ s (s1.grow esz (len + n) (old ++ new)).1 (s1.grow esz (len + n) (old ++ new)).2 v' w' := fun s1 hs1 h1 hc => by
        obtain ⟨c, k, k1, rfl, k3⟩ := append_grows (P := P) (ty := o.type) (base := some ⟨(μ i).block, off', none⟩) (sLen := len) (cap := cap') (old := old2) (need := len + n) ht hu hz hm hb hlen rfl hc hbig.1 hbig.2 (by omega) (by simp [Builtin.firstCells, hold2]) hnf2
        obtain ⟨μ', m1, m2, m3⟩ := grown_after (w1 := w.drew) (h1.drew (w.drawn + 1)) (e := e) (n := len + n) (esz := esz) (k := (Builtin.zeroCells z.cells (c - (len + n))).toList) (cs := old ++ new) (l := old2 ++ new2) (by rw [hs1]; exact holdr2.append hnr2) k1
          (by rw [zeroCells_length, List.length_append, hol2, hnl2, hnlen, holdlen, hzs, ← Nat.add_mul, ← Nat.add_mul]; congr 1; omega) hesz
        rw [hs1] at m1
        exact ⟨_, _, fin k3, μ', m1, by simpa using m2, by simpa using m3⟩
      split at hp
      · -- a row whose end is known
        rename_i hg0
        have hg0' : (μ i).grown = 0 := hgr.trans hg0
        have hcc := q2 hg0'
        have hoff := q3 (.inr hg0')
        subst hoff
        split at hp
        · rename_i hfit
          simp only [Option.map_eq_some_iff, Prod.mk.injEq] at hp
          obtain ⟨s1, hs1, rfl, rfl⟩ := hp
          rw [addA_rel] at hs1
          obtain ⟨k1, k2, k3⟩ := storeAt_sound (P := P) h hnr hs1
          refine ⟨_, _, fin (append_fits (P := P) (new := new') ht hu hm hlen (by omega) hnf (.inr ⟨_, rfl, by rw [add_eq, Nat.add_assoc]; exact k1⟩)), μ, ⟨by omega, fun _ _ => rfl⟩, k2, ?_⟩
          rw [k3]
          exact .slice _ _ _ _ _ _ hi (by omega) q1 q2 q3 q4 q5
        · rename_i hfit
          simp only [Option.some.injEq] at hp
          obtain ⟨v', w', d1, d2⟩ := growsTo s rfl h (by omega)
          rw [hp] at d2
          exact ⟨v', w', d1, d2⟩
      · split at hp <;> (try (cases hp; done))
        rename_i hgn hc3
        obtain ⟨hge, rfl, hoffle⟩ := hc3
        subst hge
        simp only [Option.some.injEq] at hp
        have hng : (μ i).grown ≠ 0 := by rw [hgr]; exact hesz
        have h5 := q5 hng
        rw [hgr] at h5
        by_cases hfit : len + n ≤ cap'
        · -- in place: the old name is given up
          have hown := (hid.2.2.2.2 rfl)
          have hm1 : (len + n) * g ≤ cap' * g := Nat.mul_le_mul_right _ hfit
          have hadd : (len + n) * g = len * g + n * g := Nat.add_mul _ _ _
          have hst : (storeCells ((⟨(μ i).block, off', none⟩ : Addr).add (len * g)) new').run P w = .ok () (w.setCells (μ i).block (off' + len * g) new') := by
            rw [add_eq]
            have := run_storeCells_cells (P := P) (μ i).block (off' + len * g) new' 0 w (fun j hj => (hown.2.1 _ (by omega) (by omega)).1) (fun j hj => (hown.2.1 _ (by omega) (by omega)).2) (hnr.oneCells hone)
            simpa using this
          obtain ⟨f1, f2, f3, f4, f5⟩ := setCells_fields (μ i).block new' (off' + len * g) w
          -- the block's own facts behind the store
          have hown' : ∀ x, (μ i).base ≤ x → x < (μ i).limit → ((w.setCells (μ i).block (off' + len * g) new').cell? ⟨(μ i).block, x, none⟩).isSome = true ∧ (w.setCells (μ i).block (off' + len * g) new').frozen? ⟨(μ i).block, x, none⟩ = false := fun x hx1 hx2 => by
            obtain ⟨k1, k2⟩ := hown.2.1 x hx1 hx2
            refine ⟨?_, by rw [World.frozen?_setCells]; exact k2⟩
            by_cases c : off' + len * g ≤ x ∧ x < off' + len * g + new'.length
            · have hin := World.cell?_setCells_in (μ i).block new' (off' + len * g) w (fun k hk => (hown.2.1 _ (by omega) (by omega)).1) (x - (off' + len * g)) (by omega)
              rw [show off' + len * g + (x - (off' + len * g)) = x by omega] at hin
              rw [hin]; rfl
            · rw [World.cell?_setCells_out _ _ _ _ _ (fun _ _ => by simp; omega)]
              exact k1
          have r1 : Rel B0 W0 μ (s.put i (some (.row [] g false))) (w.setCells (μ i).block (off' + len * g) new') :=
            h.turn hget rfl _ f1 f2 f3 f4 f5 ⟨hgr, by have := hid.2.1; simp; omega, fun j v hj => by simp at hj, fun hr => by simp at hr, fun _ => ⟨hown.1, hown', fun hg => absurd hg hesz⟩⟩
          have r2 : Rel B0 W0 μ (s.put i none) (w.setCells (μ i).block (off' + len * g) new') :=
            (r1.kill i).congr rfl (fun j => by simp only [St.get_put]; by_cases hh : i = j <;> simp [hh])
          have ha' := upd_agree (μ := μ) ⟨(μ i).block, off', (μ i).limit, g⟩ s.next
          have r3 := r2.rename (.row (old ++ new) g false) ⟨(μ i).block, off', (μ i).limit, g⟩ (by rw [f4]; exact (h.known i _ hget).2.1) (by
              show IdOk B0 (upd μ s.next _) (s.next + 1) _ s.next _
              unfold IdOk
              rw [upd_same]
              refine ⟨rfl, by simp [holdlen, hnlen]; omega, fun j v hj => ?_, fun hr => by simp at hr, fun _ => ⟨hown.1, fun x hx1 hx2 => hown' x (by simp at hx1; omega) hx2, fun hg => absurd hg hesz⟩⟩
              by_cases hj1 : j < old.length
              · rw [List.getElem?_append_left hj1] at hj
                have hl1 : 0 < len := by
                  rcases Nat.eq_zero_or_pos len with e | e
                  · rw [holdlen, e] at hj1; simp at hj1
                  · exact e
                have hcell : ∃ v', w.cell? ⟨(μ i).block, off' + j, none⟩ = some v' ∧ VR μ s.next v v' := by
                  rw [hoo hl1, Nat.add_assoc]
                  unfold St.cells at hold
                  simp only [hget] at hold
                  split at hold
                  · simp at hold
                    rw [← hold, List.getElem?_take_of_lt (by omega), List.getElem?_drop] at hj
                    exact hid.cellAt hj
                  · cases hold
                obtain ⟨v', k1, k2⟩ := hcell
                exact ⟨v', by simp only []; rw [World.cell?_setCells_out _ _ _ _ _ (fun _ _ => Or.inl (by simp; omega))]; exact k1, k2.mono ha'⟩
              · rw [List.getElem?_append_right (by omega)] at hj
                obtain ⟨v', k1, k2⟩ := hnr.get hj
                have hlt : j - old.length < new'.length := by
                  rcases Nat.lt_or_ge (j - old.length) new'.length with hh | hh
                  · exact hh
                  · rw [List.getElem?_eq_none hh] at k1; cases k1
                have hin := World.cell?_setCells_in (μ i).block new' (off' + len * g) w (fun k hk => (hown.2.1 _ (by omega) (by omega)).1) (j - old.length) hlt
                refine ⟨v', ?_, k2.mono ha'⟩
                simp only []
                rw [show off' + j = off' + len * g + (j - old.length) by omega, hin, ← k1]
                simp [hlt]) (fun _ j oj hj hoj => by
              rw [St.get_put] at hj
              split at hj
              · cases hj
              · rename_i hij
                exact h.apart j i oj _ (fun e => hij e.symm) hj hget hoj rfl)
          refine ⟨_, _, fin (append_fits (P := P) (new := new') ht hu hm hlen hfit hnf (.inr ⟨_, rfl, hst⟩)), ?_⟩
          simp only [St.grow, Prod.mk.injEq] at hp
          obtain ⟨rfl, rfl⟩ := hp
          refine ⟨_, ha', r3, ?_⟩
          have := VR.slice (μ := upd μ s.next ⟨(μ i).block, off', (μ i).limit, g⟩) (n := s.next + 1) s.next 0 off' (len + n) (len + n) cap' (by omega) (Nat.le_refl _) hfit (fun hh => by simp [upd_same] at hh; exact absurd hh hesz) (fun _ => by simp [upd_same]) (by simp [upd_same]) (fun _ => by simp [upd_same]; omega)
          simpa [upd_same] using this
        · obtain ⟨v', w', d1, d2⟩ := growsTo (s.put i none) rfl (h.kill i) (by omega)
          rw [hp] at d2
          exact ⟨v', w', d1, d2⟩

end Go.Am
