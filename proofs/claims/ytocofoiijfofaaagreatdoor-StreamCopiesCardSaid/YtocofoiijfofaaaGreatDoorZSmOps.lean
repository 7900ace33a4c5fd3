/-
  Open, Read, Write, Close in terms of what streams are.
-/
import Derived.Test.YtocofoiijfofaaaGreatDoorZSmOpen
set_option linter.unusedSimpArgs false
set_option linter.unusedVariables false
set_option maxRecDepth 10000
namespace Go.Proofs.YtocofoiijfofaaaGreatDoor
open Go.Am
attribute [local irreducible] callO wopK ropK popK opK grpsE listE sx Runs

/-- no end of a pipe -/
def HM.plain : HM → Bool
  | .pe _ _ => false
  | _ => true

theorem SMOk.addH {M : SM} (h : SMOk M) {x : HM} (hx : x.plain = true) : SMOk { M with hnd := aset M.hnd (M.last + 1) x, last := M.last + 1 } where
  nf := h.nf
  np := h.np
  na := h.na
  nh := aset_nodup h.nh _ _
  ids := fun id y hm => by
    have := h.l0
    rcases aset_mem hm with he | hm
    · cases he; show 1 ≤ M.last + 1 ∧ M.last + 1 ≤ M.last + 1; omega
    · have := h.ids id y hm; show 1 ≤ id ∧ id ≤ M.last + 1; omega
  l0 := by have := h.l0; show 0 ≤ M.last + 1; omega
  pes := fun id nm r hm => by
    rcases aset_mem hm with he | hm
    · cases he; cases hx
    · exact h.pes id nm r hm
  one := fun id id' nm r hm hm' => by
    rcases aset_mem hm with he | hm
    · cases he; cases hx
    · rcases aset_mem hm' with he | hm'
      · cases he; cases hx
      · exact h.one id id' nm r hm hm'
  was := h.was

theorem SMOk.addPe {M : SM} (h : SMOk M) {nm : ByteArray} {pm : PM} {r : Bool} (hg : aget M.pipes nm = none) (h1 : (bif r then pm.reading else pm.writing) = true) (h2 : (pm.writing = true → pm.wrote = true) ∧ (pm.reading = true → pm.read = true)) :
    SMOk { M with pipes := aset M.pipes nm pm, hnd := aset M.hnd (M.last + 1) (.pe nm r), last := M.last + 1 } where
  nf := h.nf
  np := aset_nodup h.np _ _
  na := h.na
  nh := aset_nodup h.nh _ _
  ids := fun id y hm => by
    have := h.l0
    rcases aset_mem hm with he | hm
    · cases he; show 1 ≤ M.last + 1 ∧ M.last + 1 ≤ M.last + 1; omega
    · have := h.ids id y hm; show 1 ≤ id ∧ id ≤ M.last + 1; omega
  l0 := by have := h.l0; show 0 ≤ M.last + 1; omega
  pes := fun id nm' r' hm => by
    rcases aset_mem hm with he | hm
    · cases he; exact ⟨pm, by show aget (aset M.pipes nm pm) nm = _; rw [aget_aset, if_pos rfl], h1⟩
    · obtain ⟨pm', k1, k2⟩ := h.pes id nm' r' hm
      refine ⟨pm', ?_, k2⟩
      show aget (aset M.pipes nm pm) nm' = _
      rw [aget_aset, if_neg (fun e => by rw [← e, hg] at k1; cases k1)]
      exact k1
  one := fun id id' nm' r' hm hm' => by
    have ne : ∀ j, (j, HM.pe nm r') ∈ M.hnd → False := fun j hj => by
      obtain ⟨pm', k1, _⟩ := h.pes j nm r' hj
      rw [hg] at k1; cases k1
    rcases aset_mem hm with he | hm
    · cases he
      rcases aset_mem hm' with he' | hm'
      · cases he'; rfl
      · exact (ne _ hm').elim
    · rcases aset_mem hm' with he' | hm'
      · cases he'; exact (ne _ hm).elim
      · exact h.one id id' nm' r' hm hm'
  was := fun nm' pm' hg' => by
    have : aget (aset M.pipes nm pm) nm' = some pm' := hg'
    rw [aget_aset] at this
    split at this
    · cases this; exact h2
    · exact h.was nm' pm' this

theorem SMOk.setH {M : SM} (h : SMOk M) {id : Int} {x y : HM} (hy : aget M.hnd id = some y) (hx : x.plain = true) : SMOk { M with hnd := aset M.hnd id x } where
  nf := h.nf
  np := h.np
  na := h.na
  nh := aset_nodup h.nh _ _
  ids := fun j z hm => by
    rcases aset_mem hm with he | hm
    · cases he; exact h.ids _ _ (aget_mem hy)
    · exact h.ids j z hm
  l0 := h.l0
  pes := fun id nm r hm => by
    rcases aset_mem hm with he | hm
    · cases he; cases hx
    · exact h.pes id nm r hm
  one := fun id id' nm r hm hm' => by
    rcases aset_mem hm with he | hm
    · cases he; cases hx
    · rcases aset_mem hm' with he | hm'
      · cases he; cases hx
      · exact h.one id id' nm r hm hm'
  was := h.was

theorem SMOk.setRow {M : SM} (h : SMOk M) {nm : ByteArray} {pm : PM} (hg : aget M.pipes nm = some pm) (row : List UInt8) : SMOk { M with pipes := aset M.pipes nm { pm with row := row } } where
  nf := h.nf
  np := aset_nodup h.np _ _
  na := h.na
  nh := h.nh
  ids := h.ids
  l0 := h.l0
  pes := fun id nm' r hm => by
    obtain ⟨pm', k1, k2⟩ := h.pes id nm' r hm
    by_cases e : nm = nm'
    · subst e
      rw [hg] at k1; cases k1
      exact ⟨{ pm with row := row }, by show aget (aset M.pipes nm _) nm = _; rw [aget_aset, if_pos rfl], k2⟩
    · exact ⟨pm', by show aget (aset M.pipes nm _) nm' = _; rw [aget_aset, if_neg e]; exact k1, k2⟩
  one := h.one
  was := fun nm' pm' hg' => by
    have : aget (aset M.pipes nm { pm with row := row }) nm' = some pm' := hg'
    rw [aget_aset] at this
    split at this
    · cases this; exact h.was nm pm hg
    · exact h.was nm' pm' this

theorem SMOk.delH {M : SM} (h : SMOk M) (id : Int) : SMOk { M with hnd := adel M.hnd id } where
  nf := h.nf
  np := h.np
  na := h.na
  nh := adel_nodup h.nh _
  ids := fun j z hm => h.ids j z (adel_sub hm)
  l0 := h.l0
  pes := fun j nm r hm => h.pes j nm r (adel_sub hm)
  one := fun j j' nm r hm hm' => h.one j j' nm r (adel_sub hm) (adel_sub hm')
  was := h.was

theorem SMOk.setF {M : SM} (h : SMOk M) (nm : ByteArray) (bs : List UInt8) : SMOk { M with files := aset M.files nm bs } where
  nf := aset_nodup h.nf _ _
  np := h.np
  na := h.na
  nh := h.nh
  ids := h.ids
  l0 := h.l0
  pes := h.pes
  one := h.one
  was := h.was

section
variable {own own' : Nat → Own} {pb pb' : ByteArray → Nat} {st s2 s3 : St} {N : Nat} {M : SM}

theorem Rep.find (hR : Rep own pb st N M) {id : Int} {x : HM} (hg : aget M.hnd id = some x) : ∃ es c j v, st.get (N + 4) = some (.map es c) ∧ Stamps es c ∧ MapOk (Value.int .i64) (HndR own pb st) es M.hnd ∧ findV .int (.int .i64 id) es 0 = some (some (j, v)) ∧ HndR own pb st id x v := by
  obtain ⟨es, c, h1, h2, h3⟩ := hR.hnd
  rcases h3.find key_int id 0 with ⟨_, k⟩ | ⟨j, v, a, k1, k2, k3⟩
  · rw [hg] at k; cases k
  · rw [hg] at k2; cases k2
    rw [Nat.zero_add] at k1
    exact ⟨es, c, j, v, h1, h2, h3, k1, k3⟩

/-- what is open, and one more -/
theorem Rep.opened (hR : Rep own pb st N M) (hf : ∀ i, i < st.next → i ≠ N + 2 → s2.get i = st.get i) (hn : st.next ≤ s2.next)
    (ho : ∀ i, own i ≠ .no → own' i = own i) (hnew : ∀ i, own' i ≠ .no → i < s2.next) (hno : ∀ i, i < st.next → own i = .no → own' i = .no)
    {pipes' : List (ByteArray × PM)} (hpip : ∃ es c, s2.get (N + 2) = some (.map es c) ∧ Stamps es c ∧ MapOk Value.string (PipeR own' pb' s2) es pipes')
    (hpb : ∀ id nm r, (id, HM.pe nm r) ∈ M.hnd → pb' nm = pb nm) {x : HM} {v : Value} {es : List (Value × Value × Nat)} {hc : Nat} (he : st.get (N + 4) = some (.map es hc)) (hst : Stamps es hc) (hmap : MapOk (Value.int .i64) (HndR own pb st) es M.hnd)
    (hx : HndR own' pb' s2 (M.last + 1) x v) (hok : SMOk { M with pipes := pipes', hnd := aset M.hnd (M.last + 1) x, last := M.last + 1 })
    (h3 : s3 = (s2.put N (some (.row [.map (some (N + 1)), .map (some (N + 2)), .map (some (N + 3)), .map (some (N + 4)), .int .i64 (M.last + 1)] 0 false))).put (N + 4) (some (.map (es ++ [(.int .i64 (M.last + 1), v, hc)]) (hc + 1)))) :
    Rep own' pb' s3 N { M with pipes := pipes', hnd := aset M.hnd (M.last + 1) x, last := M.last + 1 } ∧ Fr own own' st s3 := by
  have hcl : ∀ i, N ≤ i → i < N + 5 → i < st.next := fun i h1 h2 => hR.fresh i (by rw [hR.core i h1 h2]; exact fun e => by cases e)
  have hc4 := hcl (N + 4) (by omega) (by omega)
  have g3 : ∀ i, i ≠ N → i ≠ N + 4 → s3.get i = s2.get i := fun i i1 i2 => by
    rw [h3, get_put_ne _ _ _ _ (fun e => i2 e.symm), get_put_ne _ _ _ _ (fun e => i1 e.symm)]
  have cne : ∀ i, own i ≠ .core → i ≠ N ∧ i ≠ N + 2 ∧ i ≠ N + 4 := fun i hi =>
    ⟨fun e => hi (by rw [e]; exact hR.core N (by omega) (by omega)), fun e => hi (by rw [e]; exact hR.core _ (by omega) (by omega)), fun e => hi (by rw [e]; exact hR.core _ (by omega) (by omega))⟩
  have same : ∀ i, own i ≠ .no → own i ≠ .core → s3.get i = st.get i := fun i i1 i2 => by
    obtain ⟨k1, k2, k3⟩ := cne i i2
    rw [g3 i k1 k3, hf i (hR.fresh i i1) k2]
  have cne' : ∀ i, own' i ≠ .core → i ≠ N ∧ i ≠ N + 4 := fun i hi => by
    have hcr : ∀ j, N ≤ j → j < N + 5 → own' j = .core := fun j j1 j2 => by rw [ho j (by rw [hR.core j j1 j2]; exact fun e => by cases e), hR.core j j1 j2]
    exact ⟨fun e => hi (by rw [e]; exact hcr _ (by omega) (by omega)), fun e => hi (by rw [e]; exact hcr _ (by omega) (by omega))⟩
  have same' : ∀ i, own' i ≠ .core → s3.get i = s2.get i := fun i hi => g3 i (cne' i hi).1 (cne' i hi).2
  have hnx : s3.next = s2.next := by rw [h3]; rfl
  have lt : ∀ i, i < st.next → own i = .no → s3.get i = st.get i := fun i i1 i2 => by
    obtain ⟨k1, k2, k3⟩ := cne i (by rw [i2]; exact fun e => by cases e)
    rw [g3 i k1 k3, hf i i1 k2]
  have kp : ∀ {i : Nat} {o : Own}, o ≠ .no → own i = o → own' i = o := fun h1 h2 => by rw [ho _ (by rw [h2]; exact h1), h2]
  obtain ⟨fes, fc, f1, f2, f3⟩ := hR.fil
  obtain ⟨pes, pc, p1, p2, p3⟩ := hpip
  obtain ⟨aes, ac, a1, a2, a3⟩ := hR.asg
  refine ⟨{
    n0 := hR.n0
    mx := ?_
    str := by show s3.get N = _; rw [h3, get_put_ne _ _ _ _ (by omega), get_put_same]
    fil := ⟨fes, fc, by rw [g3 _ (by omega) (by omega), hf _ (hcl _ (by omega) (by omega)) (by omega)]; exact f1, f2, f3.mono fun k a v _ hr => hr.keep (fun i hi => same i (by rw [hi]; exact fun e => by cases e) (by rw [hi]; exact fun e => by cases e)) fun i hi => kp (fun e => by cases e) hi⟩
    pip := ⟨pes, pc, by rw [g3 _ (by omega) (by omega)]; exact p1, p2, p3.mono fun k a v _ hr => hr.keep (fun i hi => same' i (by rcases hi with hi | hi <;> rw [hi] <;> exact fun e => by cases e)) (fun i hi => hi) (fun i hi => hi) rfl⟩
    asg := ⟨aes, ac, by rw [g3 _ (by omega) (by omega), hf _ (hcl _ (by omega) (by omega)) (by omega)]; exact a1, a2, a3⟩
    hnd := ⟨es ++ [(.int .i64 (M.last + 1), v, hc)], hc + 1, by rw [h3, get_put_same], hst.snoc _ _, hmap.snoc ?_ ?_ fun k a v _ hm hr => hr.keep (fun i hi => same i (by rcases hi with hi | hi <;> rw [hi] <;> exact fun e => by cases e) (by rcases hi with hi | hi <;> rw [hi] <;> exact fun e => by cases e)) (fun i hi => kp (fun e => by cases e) hi) (fun i hi => kp (fun e => by cases e) hi) (fun nm r e => hpb k nm r (by rw [← e]; exact hm))⟩
    core := fun i i1 i2 => by rw [ho i (by rw [hR.core i i1 i2]; exact fun e => by cases e), hR.core i i1 i2]
    fresh := fun i hi => by rw [hnx]; exact hnew i hi
    zero := hno 0 (by have := hR.n0; omega) hR.zero
    ok := hok }, ?_, ?_, ?_⟩
  · have : s3.get 0 = st.get 0 := lt 0 (by have := hR.n0; omega) hR.zero
    unfold hasMax
    rw [this]
    exact hR.mx
  · exact hx.keep (fun i hi => same' i (by rcases hi with hi | hi <;> rw [hi] <;> exact fun e => by cases e)) (fun i hi => hi) (fun i hi => hi) (fun _ _ _ => rfl)
  · rw [aget_none]
    intro hm
    obtain ⟨p, q1, q2⟩ := List.mem_map.1 hm
    obtain ⟨id, y⟩ := p
    have := hR.ok.ids id y q1
    simp only at q2
    omega
  · rw [hnx]; exact hn
  · exact lt
  · exact hno

/-- a handle's own blocks turned: nothing else -/
theorem Rep.turned (hR : Rep own pb st N M) {id : Int} {x y : HM} {es : List (Value × Value × Nat)} {hc j : Nat} {v : Value} (hg : aget M.hnd id = some y) (hx : x.plain = true) (he : st.get (N + 4) = some (.map es hc)) (hst : Stamps es hc) (hmap : MapOk (Value.int .i64) (HndR own pb st) es M.hnd) (hfv : findV .int (.int .i64 id) es 0 = some (some (j, v)))
    (hf : ∀ i, i < st.next → own i ≠ .h id → own i ≠ .hv id → s2.get i = st.get i) (hn : st.next ≤ s2.next)
    (ho : ∀ i, own i ≠ .no → own' i = own i) (hnew : ∀ i, own' i ≠ .no → i < s2.next) (hno : ∀ i, i < st.next → own i = .no → own' i = .no) (hv : HndR own' pb s2 id x v) :
    Rep own' pb s2 N { M with hnd := aset M.hnd id x } ∧ Fr own own' st s2 := by
  have hcl : ∀ i, N ≤ i → i < N + 5 → s2.get i = st.get i := fun i h1 h2 => by
    have hc := hR.core i h1 h2
    exact hf i (hR.fresh i (by rw [hc]; exact fun e => by cases e)) (by rw [hc]; exact fun e => by cases e) (by rw [hc]; exact fun e => by cases e)
  have kp : ∀ {i : Nat} {o : Own}, o ≠ .no → own i = o → own' i = o := fun h1 h2 => by rw [ho _ (by rw [h2]; exact h1), h2]
  have lt : ∀ i, i < st.next → own i = .no → s2.get i = st.get i := fun i i1 i2 => hf i i1 (by rw [i2]; exact fun e => by cases e) (by rw [i2]; exact fun e => by cases e)
  obtain ⟨fes, fc, f1, f2, f3⟩ := hR.fil
  obtain ⟨pes, pc, p1, p2, p3⟩ := hR.pip
  obtain ⟨aes, ac, a1, a2, a3⟩ := hR.asg
  refine ⟨{
    n0 := hR.n0
    mx := ?_
    str := by show s2.get N = _; rw [hcl N (by omega) (by omega)]; exact hR.str
    fil := ⟨fes, fc, by rw [hcl _ (by omega) (by omega)]; exact f1, f2, f3.mono fun k a v _ hr => hr.keep (fun i hi => hf i (hR.fresh i (by rw [hi]; exact fun e => by cases e)) (by rw [hi]; exact fun e => by cases e) (by rw [hi]; exact fun e => by cases e)) fun i hi => kp (fun e => by cases e) hi⟩
    pip := ⟨pes, pc, by rw [hcl _ (by omega) (by omega)]; exact p1, p2, p3.mono fun k a v _ hr => hr.keep (fun i hi => hf i (hR.fresh i (by rcases hi with hi | hi <;> rw [hi] <;> exact fun e => by cases e)) (by rcases hi with hi | hi <;> rw [hi] <;> exact fun e => by cases e) (by rcases hi with hi | hi <;> rw [hi] <;> exact fun e => by cases e)) (fun i hi => kp (fun e => by cases e) hi) (fun i hi => kp (fun e => by cases e) hi) rfl⟩
    asg := ⟨aes, ac, by rw [hcl _ (by omega) (by omega)]; exact a1, a2, a3⟩
    hnd := ⟨es, hc, by rw [hcl _ (by omega) (by omega)]; exact he, hst, hmap.touch key_int (i := 0) (j := j) hv hR.ok.nh (by rw [Nat.zero_add]; exact hfv) fun k a v hk hm hr => hr.keep (fun i hi => hf i (hR.fresh i (by rcases hi with hi | hi <;> rw [hi] <;> exact fun e => by cases e)) (by rcases hi with hi | hi <;> rw [hi] <;> exact fun e => by cases e <;> exact hk rfl) (by rcases hi with hi | hi <;> rw [hi] <;> exact fun e => by cases e <;> exact hk rfl)) (fun i hi => kp (fun e => by cases e) hi) (fun i hi => kp (fun e => by cases e) hi) (fun _ _ _ => rfl)⟩
    core := fun i i1 i2 => by rw [ho i (by rw [hR.core i i1 i2]; exact fun e => by cases e), hR.core i i1 i2]
    fresh := hnew
    zero := hno 0 (by have := hR.n0; have := hR.fresh N (by rw [hR.core N (by omega) (by omega)]; exact fun e => by cases e); omega) hR.zero
    ok := hR.ok.setH hg hx }, hn, lt, hno⟩
  have : s2.get 0 = st.get 0 := lt 0 (by have := hR.n0; have := hR.fresh N (by rw [hR.core N (by omega) (by omega)]; exact fun e => by cases e); omega) hR.zero
  unfold hasMax
  rw [this]
  exact hR.mx
end
end Go.Proofs.YtocofoiijfofaaaGreatDoor
