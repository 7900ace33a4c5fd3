/-
  Open, Read, Write, Close, each as what streams are has it.
-/
import Derived.Test.YtocofoiijfofaaaGreatDoorZSmOps
set_option linter.unusedSimpArgs false
set_option linter.unusedVariables false
set_option maxRecDepth 10000
set_option linter.unusedSectionVars false
namespace Go.Proofs.YtocofoiijfofaaaGreatDoor
open Go.Am
attribute [local irreducible] callO wopK ropK popK opK grpsE listE sx Runs

/-- two new blocks named -/
theorem lab2 {own : Nat → Own} {n1 n2 b c : Nat} {o1 o2 : Own} (hfr : ∀ i, own i ≠ .no → i < n1) (hn : n1 ≤ n2) (hb : b = 0 ∨ (n1 + 1 ≤ b ∧ b ≤ n2)) (hc : c = 0 ∨ (n1 + 1 ≤ c ∧ c ≤ n2)) :
    (∀ i, own i ≠ .no → lab (lab own b o1) c o2 i = own i) ∧ (∀ i, lab (lab own b o1) c o2 i ≠ .no → i < n2) ∧ (∀ i, i < n1 → own i = .no → lab (lab own b o1) c o2 i = .no) := by
  refine ⟨fun i hi => ?_, fun i hi => ?_, fun i hi h0 => ?_⟩
  · have := hfr i hi
    simp only [lab]
    rw [if_neg (by omega), if_neg (by omega)]
  · by_cases h1 : i + 1 = c
    · omega
    · by_cases h2 : i + 1 = b
      · omega
      · simp only [lab] at hi
        rw [if_neg h1, if_neg h2] at hi
        have := hfr i hi
        omega
  · simp only [lab]
    rw [if_neg (by omega), if_neg (by omega)]
    exact h0

/-- a slice's row, its old one or a new one, named as before -/
theorem lab1 {own : Nat → Own} {n1 n2 : Nat} {o : Own} {v v' : Value} (hfr : ∀ i, own i ≠ .no → i < n1) (hn : n1 ≤ n2) (hv : OwV own o v) (hne : o ≠ .no) (h : ow v' = ow v ∨ (n1 + 1 ≤ ow v' ∧ ow v' ≤ n2)) :
    (∀ i, own i ≠ .no → lab own (ow v') o i = own i) ∧ (∀ i, lab own (ow v') o i ≠ .no → i < n2) ∧ (∀ i, i < n1 → own i = .no → lab own (ow v') o i = .no) := by
  refine ⟨fun i hi => ?_, fun i hi => ?_, fun i hi h0 => ?_⟩
  · simp only [lab]
    split
    · rename_i e
      rcases h with h | h
      · exact (hv.is (by omega)).symm
      · have := hfr i hi; omega
    · rfl
  · by_cases e : i + 1 = ow v'
    · rcases h with h | h
      · have := hfr i (by rw [hv.is (by omega)]; exact hne); omega
      · omega
    · simp only [lab] at hi
      rw [if_neg e] at hi
      have := hfr i hi
      omega
  · simp only [lab]
    split
    · rename_i e
      rcases h with h | h
      · have := hv.is (i := i) (by omega); rw [h0] at this; exact (hne this.symm).elim
      · omega
    · exact h0

section
variable {own own' : Nat → Own} {pb pb' : ByteArray → Nat} {st s2 s3 : St} {N : Nat} {M : SM} {K : Value → St → Prop}

theorem Rep.lt (hR : Rep own pb st N M) (k : Nat) (hk : k < 5) : N + k < st.next := hR.fresh _ (by rw [hR.core (N + k) (by omega) (by omega)]; exact fun e => by cases e)

theorem Rep.asg0 (hR : Rep own pb st N M) (ha : M.asg = []) : ∃ c, st.get (N + 3) = some (.map [] c) := by
  obtain ⟨es, c, h1, h2, h3⟩ := hR.asg
  rw [ha] at h3
  cases es with
  | nil => exact ⟨c, h1⟩
  | cons e es => exact h3.elim

theorem Rep.newId (hR : Rep own pb st N M) : aget M.hnd (M.last + 1) = none := by
  rw [aget_none]
  intro hm
  obtain ⟨p, q1, q2⟩ := List.mem_map.1 hm
  obtain ⟨id, y⟩ := p
  have := hR.ok.ids id y q1
  simp only at q2
  omega

/-- a name's bytes, whole -/
theorem whole_le {pl pa : ByteArray} (h : given pl = true ∧ full pl pa = true) : (pl ++ sColon ++ pa).size < 4294967281 := by
  have h1 := given_le h.1
  have h2 := full_le h.2
  have h3 : sColon.size = 1 := rfl
  simp only [ByteArray.size_append, h3]
  omega

theorem pOpenR (n : Nat) (hR : Rep own pb st N M) (ha : M.asg = []) (hlen : M.hnd.length < 20) (hl : M.last ≤ 1000000) {nm pa : ByteArray} {bs : List UInt8} (hns : nm.size ≤ 5000) (hres : res0 nm = some (sRam, pa)) (hpa : pa ≠ ByteArray.empty) (hfile : aget M.files pa = some bs)
    (hK : ∀ own' st', Rep own' pb st' N { M with hnd := aset M.hnd (M.last + 1) (.rd pa bs), last := M.last + 1 } → Fr own own' st st' → K (.tuple #[.int .i64 (M.last + 1), .int .i64 0]) st') :
    callK (callO T0 orc fns 100000 (n + 4)) 8 [.pointer (some ⟨N, 0, none⟩), .string nm, .int .i64 0] st K := by
  obtain ⟨ac, hac⟩ := hR.asg0 ha
  obtain ⟨hs, hc, h1, h2, h3⟩ := hR.hnd
  obtain ⟨fs, fc, f1, f2, f3⟩ := hR.fil
  have hfi : findV .int (.int .i64 (M.last + 1)) hs 0 = some none := by
    rcases h3.find key_int (M.last + 1) 0 with ⟨k, _⟩ | ⟨j, v, a, _, k2, _⟩
    · exact k
    · rw [hR.newId] at k2; cases k2
  have l0 := hR.ok.l0
  refine oAny n hR.str hac h1 hR.mx hns (.inl rfl) (by rw [h3.length]; exact hlen) l0 hl hfi (by omega) (fun hE e he => ?_) (fun pl pa' h0 _ => ?_)
  · rw [hres] at hE
    rcases hE with hE | hE
    · cases hE
    · exact (hpa (by injection hE with e; injection e)).elim
  · have hgf := res0_given hres
    rw [hres] at h0
    cases h0
    obtain ⟨c1, c2⟩ := cut_full pa hgf.1
    rcases f3.find key_str pa 0 with ⟨_, k⟩ | ⟨j, v, a, k1, k2, k3⟩
    · rw [hfile] at k; cases k
    · rw [hfile] at k2
      cases k2
      rw [Nat.zero_add] at k1
      obtain ⟨q1, q2, q3⟩ := k3
      refine openRamR (n + 1) hR.str f1 k1 q1.bys q3 (q2.le hR.fresh (fun e => by cases e)) hR.mx (whole_le hgf) c1 c2 fun e v' s2 a1 a2 a3 a4 a5 a6 a7 => ?_
      refine ⟨_, rfl, a7 N (hR.lt 0 (by omega)), a7 (N + 4) (hR.lt 4 (by omega)), ?_⟩
      have hn : st.next ≤ s2.next := by omega
      obtain ⟨l1, l2, l3⟩ := lab2 (own := own) (n1 := st.next) (n2 := s2.next) (b := e + 1) (c := ow v') (o1 := .h (M.last + 1)) (o2 := .hv (M.last + 1)) hR.fresh hn (.inr ⟨by omega, by omega⟩) a5
      obtain ⟨ps, pc, p1, p2, p3⟩ := hR.pip
      have kp : ∀ {i : Nat} {o : Own}, o ≠ .no → own i = o → lab (lab own (e + 1) (.h (M.last + 1))) (ow v') (.hv (M.last + 1)) i = o := fun h1 h2 => by rw [l1 _ (by rw [h2]; exact h1), h2]
      have fin := hR.opened (own' := lab (lab own (e + 1) (.h (M.last + 1))) (ow v') (.hv (M.last + 1))) (pb' := pb) (pipes' := M.pipes) (x := .rd pa bs) (fun i hi _ => a7 i hi) hn l1 l2 l3 ⟨ps, pc, (a7 _ (hR.lt 2 (by omega))).trans p1, p2, p3.mono fun k a v _ hr => hr.keep (fun i hi => a7 i (hR.fresh i (by rcases hi with hi | hi <;> rw [hi] <;> exact fun e => by cases e))) (fun i hi => kp (fun e => by cases e) hi) (fun i hi => kp (fun e => by cases e) hi) rfl⟩
        (fun _ _ _ _ => rfl) h1 h2 h3 (v := .iface 117 (.pointer (some ⟨e, 0, none⟩))) ⟨e, v', rfl, ?_, a1, a2, OwV.at _ _ _, q3⟩ (hR.ok.addH rfl) rfl
      · exact hK _ _ fin.1 fin.2
      · simp only [lab]
        rw [if_neg (fun h => a6 h.symm)]
        simp

/-- nothing is open for writing -/
def NoWr (M : SM) : Prop := ∀ id p b, (id, HM.wr p b) ∉ M.hnd

theorem pOpenW (n : Nat) (hR : Rep own pb st N M) (ha : M.asg = []) (hpi : M.pipes = []) (hnw : NoWr M) (hlen : M.hnd.length < 20) (hl : M.last ≤ 1000000) {nm : ByteArray} (hns : nm.size ≤ 5000)
    (hE : (res0 nm = none ∨ res0 nm = some (sRam, ByteArray.empty)) → ∀ e : Int, e ≠ 0 → K (.tuple #[.int .i64 0, .int .i64 e]) st)
    (hW : ∀ pa, res0 nm = some (sRam, pa) → ∀ own' st', Rep own' pb st' N { M with hnd := aset M.hnd (M.last + 1) (.wr pa []), last := M.last + 1 } → Fr own own' st st' → K (.tuple #[.int .i64 (M.last + 1), .int .i64 0]) st')
    (hN : ∀ pa, res0 nm = some (sNil, pa) → ∀ own' st', Rep own' pb st' N { M with hnd := aset M.hnd (M.last + 1) (.nl false), last := M.last + 1 } → Fr own own' st st' → K (.tuple #[.int .i64 (M.last + 1), .int .i64 0]) st')
    (hP : ∀ pa, res0 nm = some (sPipe, pa) → ∀ own' pb' st', Rep own' pb' st' N { M with pipes := aset M.pipes pa ⟨[], true, true, false, false⟩, hnd := aset M.hnd (M.last + 1) (.pe pa false), last := M.last + 1 } → Fr own own' st st' → K (.tuple #[.int .i64 (M.last + 1), .int .i64 0]) st') :
    callK (callO T0 orc fns 100000 (n + 4)) 8 [.pointer (some ⟨N, 0, none⟩), .string nm, .int .i64 1] st K := by
  obtain ⟨ac, hac⟩ := hR.asg0 ha
  obtain ⟨hs, hc, h1, h2, h3⟩ := hR.hnd
  obtain ⟨fs, fc, f1, f2, f3⟩ := hR.fil
  obtain ⟨ps, pc, p1, p2, p3⟩ := hR.pip
  have hfi : findV .int (.int .i64 (M.last + 1)) hs 0 = some none := by
    rcases h3.find key_int (M.last + 1) 0 with ⟨k, _⟩ | ⟨j, v, a, _, k2, _⟩
    · exact k
    · rw [hR.newId] at k2; cases k2
  have l0 := hR.ok.l0
  refine oAny n hR.str hac h1 hR.mx hns (.inr rfl) (by rw [h3.length]; exact hlen) l0 hl hfi (by omega) hE (fun pl pa h0 hne => ?_)
  have hgf := res0_given h0
  obtain ⟨c1, c2⟩ := cut_full pa hgf.1
  have hpl := hgf.1
  simp only [given, Bool.or_eq_true, decide_eq_true_eq] at hpl
  rcases hpl with (rfl | rfl) | rfl
  · -- a file in memory
    have hw : ∀ e ∈ hs, NoW st pa e := fun e he => by
      obtain ⟨k, a, k1, k2, k3⟩ := h3.each e he
      cases a with
      | rd p b => obtain ⟨e', u, q1, _⟩ := k3; exact .inl ⟨_, _, q1, by decide⟩
      | wr p b => exact (hnw k p b k1).elim
      | nl r => exact .inl ⟨_, _, k3, by decide⟩
      | pe nm r => obtain ⟨e', q1, _⟩ := k3; exact .inl ⟨_, _, q1, by decide⟩
    have hlk : ∃ v ok l, (∀ K : Value → Prop, lookK (findV .str (.string pa) fs 0) (.slice none 0 0) true K = K (.tuple #[v, .bool ok])) ∧ Bys st v l ∧ l.length ≤ 20000 ∧ ow v ≤ st.next := by
      rcases f3.find key_str pa 0 with ⟨k, _⟩ | ⟨j, v, a, k1, k2, q1, q2, q3⟩
      · exact ⟨.slice none 0 0, false, [], fun K => lookK_miss k _ K, Bys.nil _, by decide, Nat.zero_le _⟩
      · exact ⟨v, true, a, fun K => lookK_hit k1 _ K, q1.bys, q3, q2.le hR.fresh (fun e => by cases e)⟩
    obtain ⟨v, ok, l, hlk, hv, hll, hvn⟩ := hlk
    refine openRamW (n + 1) (l' := []) hR.str f1 hlk hv hll hvn hR.mx (whole_le hgf) c1 c2 h1 h2.1 hw (by rw [h3.length]; omega) (hR.lt 4 (by omega)) (.inl ⟨rfl, rfl⟩) fun e v' s2 a1 a2 a3 a4 a5 a6 a7 => ?_
    refine ⟨_, rfl, a7 N (hR.lt 0 (by omega)), a7 (N + 4) (hR.lt 4 (by omega)), ?_⟩
    have hn : st.next ≤ s2.next := by omega
    obtain ⟨l1, l2, l3⟩ := lab2 (own := own) (n1 := st.next) (n2 := s2.next) (b := e + 1) (c := ow v') (o1 := .h (M.last + 1)) (o2 := .hv (M.last + 1)) hR.fresh hn (.inr ⟨by omega, by omega⟩) a5
    have kp : ∀ {i : Nat} {o : Own}, o ≠ .no → own i = o → lab (lab own (e + 1) (.h (M.last + 1))) (ow v') (.hv (M.last + 1)) i = o := fun h1 h2 => by rw [l1 _ (by rw [h2]; exact h1), h2]
    have fin := hR.opened (own' := lab (lab own (e + 1) (.h (M.last + 1))) (ow v') (.hv (M.last + 1))) (pb' := pb) (pipes' := M.pipes) (x := .wr pa []) (fun i hi _ => a7 i hi) hn l1 l2 l3 ⟨ps, pc, (a7 _ (hR.lt 2 (by omega))).trans p1, p2, p3.mono fun k a v _ hr => hr.keep (fun i hi => a7 i (hR.fresh i (by rcases hi with hi | hi <;> rw [hi] <;> exact fun e => by cases e))) (fun i hi => kp (fun e => by cases e) hi) (fun i hi => kp (fun e => by cases e) hi) rfl⟩
      (fun _ _ _ _ => rfl) h1 h2 h3 (v := .iface 76 (.pointer (some ⟨e, 0, none⟩))) ⟨e, v', rfl, ?_, a1, a2, OwV.at _ _ _, by decide⟩ (hR.ok.addH rfl) rfl
    · exact hW pa h0 _ _ fin.1 fin.2
    · simp only [lab]
      rw [if_neg (fun h => a6 h.symm)]
      simp
  · -- a pipe
    have hpn : findV .str (.string pa) ps 0 = some none := by
      rcases p3.find key_str pa 0 with ⟨k, _⟩ | ⟨j, v, a, _, k2, _⟩
      · exact k
      · rw [hpi] at k2; cases k2
    refine openPipeAny (n + 1) (rd := false) hR.mx (whole_le hgf) c1 c2 rfl ?_
    refine kPipeNew (n + 1) hR.str p1 hpn (hR.lt 0 (by omega)) (hR.lt 2 (by omega)) fun s2 b1 b2 b3 b4 b5 => ?_
    refine ⟨_, _, rfl, _, rfl, b5 N (by omega) (hR.lt 0 (by omega)), b5 (N + 4) (by omega) (hR.lt 4 (by omega)), ?_⟩
    have hn : st.next ≤ s2.next := by omega
    obtain ⟨l1, l2, l3⟩ := lab2 (own := own) (n1 := st.next) (n2 := s2.next) (b := st.next + 1) (c := st.next + 2) (o1 := .p pa) (o2 := .h (M.last + 1)) hR.fresh hn (.inr ⟨by omega, by omega⟩) (.inr ⟨by omega, by omega⟩)
    have hnopipe : ∀ nm pm, aget M.pipes nm ≠ some pm := fun nm pm e => by rw [hpi] at e; cases e
    have fin := hR.opened (own' := lab (lab own (st.next + 1) (.p pa)) (st.next + 2) (.h (M.last + 1))) (pb' := fun x => if x = pa then st.next else pb x) (pipes' := aset M.pipes pa ⟨[], true, true, false, false⟩) (x := .pe pa false) (fun i hi h2 => b5 i h2 hi) hn l1 l2 l3
      ⟨ps ++ [(.string pa, .pointer (some ⟨st.next, 0, none⟩), pc)], pc + 1, b4, p2.snoc _ _, p3.snoc ⟨.slice none 0 0, by simp, ?_, ?_, Gro.nil _, .inl rfl, by decide⟩ (by rw [hpi]; rfl) (fun k a v _ hm _ => (by rw [hpi] at hm; cases hm))⟩
      (fun id nm r hm => (by obtain ⟨pm, k1, _⟩ := hR.ok.pes id nm r hm; exact (hnopipe _ _ k1).elim)) h1 h2 h3 (v := .iface 86 (.pointer (some ⟨st.next + 1, 0, none⟩))) ⟨st.next + 1, rfl, ?_, ?_⟩ (hR.ok.addPe (by rw [hpi]; rfl) rfl ⟨fun _ => rfl, fun h => by cases h⟩) rfl
    · exact hP pa h0 _ _ _ fin.1 fin.2
    · simp [lab]
    · simp only [if_true]; exact b2
    · simp [lab]
    · simp only [if_true]; exact b3
  · -- nil
    refine openNil (n + 1) hR.mx (whole_le hgf) c1 (.inr rfl) ?_
    refine ⟨_, rfl, rfl, rfl, ?_⟩
    have fin := hR.opened (own' := own) (pb' := pb) (s2 := st) (pipes' := M.pipes) (x := .nl false) (fun _ _ _ => rfl) (Nat.le_refl _) (fun _ _ => rfl) hR.fresh (fun _ _ h => h) ⟨ps, pc, p1, p2, p3⟩ (fun _ _ _ _ => rfl) h1 h2 h3 (v := .iface 84 (.agg #[.bool false])) rfl (hR.ok.addH rfl) rfl
    exact hN pa h0 _ _ fin.1 fin.2
end
end Go.Proofs.YtocofoiijfofaaaGreatDoor
