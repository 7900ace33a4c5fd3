/-
  Usage, by the chapter.
-/
import Derived.Test.YtdmemibnphcedaaGreatDoorRTplK
set_option linter.unusedSimpArgs false
set_option linter.unusedVariables false
set_option maxRecDepth 10000
set_option linter.unusedSectionVars false
namespace Go.Proofs.YtdmemibnphcedaaGreatDoor
open Go.Am

section
variable {st st' : St} {v u : Value} {l m : List UInt8} {K : Value → Prop}
theorem append_src (hd : Gro st v l) (s1 : srcLen u = some m.length) (s2 : st.srcCells 1 u = some (m.map u8v)) (hsz : l.length + m.length ≤ 1099511627776) {W : Value → St → Prop}
    (h : ∀ v' st', Gro st' v' (l ++ m) → (ow v' = ow v ∨ (ow v' = st.next + 1 ∧ st.next + 1 ≤ st'.next)) → st.next ≤ st'.next → (∀ i, i + 1 ≠ ow v → i < st.next → st'.get i = st.get i) → W v' st') :
    wopK (.append 1 1) [v, u] st W := by
  simp only [wopK, wop, appendV, s1, s2]
  by_cases hm : m = []
  · subst hm
    simp only [List.length_nil, if_true]
    obtain ⟨a, cap, rfl⟩ := hd.bys.cap
    simp only
    refine h _ st ?_ (.inl rfl) (Nat.le_refl _) (fun _ _ _ => rfl)
    simpa using hd
  · have hm0 : m.length ≠ 0 := fun e => hm (List.eq_nil_of_length_eq_zero e)
    simp only [hm0, if_false, all_u8, Nat.one_ne_zero, not_true_eq_false, or_self]
    have fin : ∀ (st0 : St), st0.next = st.next → (∀ i, i + 1 ≠ ow v → st0.get i = st.get i) → W (.slice (some ⟨st.next, 0, none⟩) (l.length + m.length) (l.length + m.length)) (st0.new (.row (l.map u8v ++ m.map u8v) 1 false)) := by
      intro st0 e1 e2
      refine h _ _ ?_ (.inr ⟨rfl, ?_⟩) ?_ (fun i hi hlt => ?_)
      · refine .inr (.inl ⟨st.next, 0, l.length + m.length, l.map u8v ++ m.map u8v, ?_, ?_, ?_, ?_, ?_⟩)
        · simp
        · simp
        · rw [← e1, St.get_new, if_pos rfl]
        · simp
        · rw [List.map_append, List.drop_zero, List.take_of_length_le (by simp)]
      · show st.next + 1 ≤ st0.next + 1; omega
      · show st.next ≤ st0.next + 1; omega
      · rw [St.get_new, if_neg (by omega), e2 i hi]
    rcases hd with ⟨q, q'⟩ | ⟨b, o, cap, cs, q1, q2, q3, q5, q6⟩ | ⟨b, o, cs, ro, q1, q2, q3, q4⟩
    · subst q q'
      simp only
      rw [if_pos (by simp at hsz; omega)]
      have := fin st rfl (fun _ _ => rfl)
      simpa [St.grow] using this
    · subst q1
      simp only
      rw [if_pos (by omega)]
      have hc : st.cells ⟨b, o, none⟩ (l.length * 1) = some (l.map u8v) := by
        simp only [St.cells, q3, Nat.mul_one]
        rw [if_pos q5, q6]
      simp only [q3, hc, Nat.one_ne_zero, if_false, true_and]
      rw [if_pos (by omega)]
      have := fin (st.put b none) rfl (fun i hi => by rw [St.get_put, if_neg (fun e => hi (by show i + 1 = b + 1; omega))])
      simpa [St.grow] using this
    · subst q1 q2
      simp only
      rw [if_pos (by simp at hsz; omega)]
      have hc : st.cells ⟨b, o, none⟩ (0 * 1) = some [] := by
        simp only [St.cells, q3, Nat.zero_mul, Nat.add_zero, List.take_zero]
        rw [if_pos q4]
      simp only [q3, hc, if_true]
      rw [if_neg (by omega)]
      have := fin st rfl (fun _ _ => rfl)
      simpa [St.grow] using this


theorem append_str (hd : Gro st v l) (b : ByteArray) (hsz : l.length + b.size ≤ 1099511627776) {W : Value → St → Prop}
    (h : ∀ v' st', Gro st' v' (l ++ b.data.toList) → (ow v' = ow v ∨ (ow v' = st.next + 1 ∧ st.next + 1 ≤ st'.next)) → st.next ≤ st'.next → (∀ i, i + 1 ≠ ow v → i < st.next → st'.get i = st.get i) → W v' st') :
    wopK (.append 1 1) [v, .string b] st W :=
  append_src hd (by simp only [srcLen]; rw [size_list]) (by simp [St.srcCells, u8v]) (by rw [← size_list]; exact hsz) h
theorem append_row {b g n : Nat} {ro : Bool} (hd : Gro st v l) (hb : st.get b = some (.row (m.map u8v) g ro)) (hn : m.length = n) (h0 : 0 < n) (hsz : l.length + m.length ≤ 1099511627776) {W : Value → St → Prop}
    (h : ∀ v' st', Gro st' v' (l ++ m) → (ow v' = ow v ∨ (ow v' = st.next + 1 ∧ st.next + 1 ≤ st'.next)) → st.next ≤ st'.next → (∀ i, i + 1 ≠ ow v → i < st.next → st'.get i = st.get i) → W v' st') :
    wopK (.append 1 1) [v, .slice (some ⟨b, 0, none⟩) n n] st W := by
  subst hn
  refine append_src hd rfl ?_ hsz h
  simp only [St.srcCells, St.cells, hb]
  rw [if_neg (by omega), if_pos (by rw [List.length_map]; show 0 + m.length * 1 ≤ _; omega), List.drop_zero, List.take_of_length_le (by rw [List.length_map]; omega)]
theorem rk_str (h : Gro st v l) : ropK .bytesToStr [v] st K = K (.string (bs l)) := by
  rcases h with ⟨h, h'⟩ | ⟨b, o, cap, cs, q1, q2, q3, q5, q6⟩ | ⟨b, o, cs, ro, q1, q2, q3, q4⟩
  · subst h h'; rfl
  · subst q1
    simp only [ropK, rop, St.cells, q3]
    rw [if_pos q5, q6]
    simp only [Option.bind_some, u8s_map, Option.map_some]
    rfl
  · subst q1 q2
    simp only [ropK, rop, St.cells, q3]
    rw [if_pos (by show o + 0 ≤ _; omega)]
    rfl
end
theorem join_le (sep : List UInt8) : ∀ (ys xs : List (List UInt8)), (Lib.join xs sep).length ≤ (Lib.join (xs ++ ys) sep).length
  | [], xs => by simp
  | y :: ys, xs => by
    have h1 := join_le sep ys (xs ++ [y])
    rw [join_snoc, List.length_append, List.length_append, List.append_assoc] at h1
    exact Nat.le_trans (by omega) h1

theorem ItR.at2 {lo : Nat} {st : St} {v : Value} {l : List IM} (h : ItR lo st v l) {j : Nat} (hj : j < l.length) : ∃ (b : Nat) (nv : Value), (∀ K : Value → Prop, popK (.indexAddr 7) [v, .int .i64 (j : Int)] K = K (.pointer (some ⟨b, j * 7, none⟩))) ∧
    (∀ s', Frm st s' → ∀ (k : Nat) (c : Value), (itCells nv l[j].mks)[k]? = some c → ∀ K : Value → Prop, ropK .load1 [.pointer (some ⟨b, j * 7 + k, none⟩)] s' K = K c) ∧ Cel st nv (l[j].names.map Value.string) ∧ ow nv ≤ st.next := by
  obtain ⟨nvs, h1, h2, h3, h4, h5⟩ := h
  rcases h2 with ⟨q1, q2, q3⟩ | ⟨b, cap, q1, q2, q3, q4⟩
  · omega
  have hnv : nvs[j]? = some (nvs[j]'(by omega)) := List.getElem?_eq_getElem _
  have hx : l[j]? = some l[j] := List.getElem?_eq_getElem _
  obtain ⟨k1, k2, k3, k4⟩ := h5 j _ _ hnv hx
  have hat := itRow_at nvs l j _ _ hnv hx
  have hlt : b < st.next := by
    rw [q1] at h4
    exact h4
  refine ⟨b, nvs[j]'(by omega), fun K => ?_, fun s' F' k c hc K => ?_, k1, k4⟩
  · rw [q1, pk_indexAddr]
    have e : (0 : Nat) + (j : Int).toNat * 7 = j * 7 := by omega
    rw [e]
    exact propext ⟨fun h => h.2, fun h => ⟨⟨by omega, by omega⟩, h⟩⟩
  · rw [rk_load1, F'.old b hlt, q3]
    simp only [getK, rowK]
    refine nthK_at ?_ K
    rw [← hat] at hc
    have hk : k < 7 := by
      have := (List.getElem?_eq_some_iff.1 hc).1
      rw [List.length_take] at this
      omega
    rw [List.getElem?_take_of_lt hk, List.getElem?_drop] at hc
    exact hc

attribute [local irreducible] callO wopK ropK popK opK grpsE listE sx Runs

/-- what was written so far -/
def Wr (s0 s : St) (out : Value) (L : List UInt8) : Prop := Gro s out L ∧ (ow out = 0 ∨ s0.next + 1 ≤ ow out) ∧ ow out ≤ s.next ∧ Frm s0 s

theorem Wr.row {s0 s : St} {out : Value} {L m : List UInt8} {g n : Nat} {ro : Bool} (h : Wr s0 s out L) (hn : m.length = n) (h0 : 0 < n) (hsz : L.length + m.length ≤ 1099511627776) {W : Value → St → Prop}
    (hW : ∀ out1 s1, Wr s0 s1 out1 (L ++ m) → s.next ≤ s1.next → (∀ i, i + 1 ≠ ow out → i < s.next → s1.get i = s.get i) → (ow out1 = ow out ∨ s.next < ow out1) → W out1 s1) : wopK (.append 1 1) [out, .slice (some ⟨s.next, 0, none⟩) n n] (s.new (.row (m.map u8v) g ro)) W := by
  obtain ⟨h1, h2, h3, h4⟩ := h
  have hfn := h4.nx
  refine append_row (h1.keep fun i hi => get_new_ne _ _ _ (by omega)) (get_new_same _ _) hn h0 hsz fun out1 s1 g1 g2 g3 g4 => ?_
  have g3' : s.next + 1 ≤ s1.next := g3
  have g2' : ow out1 = ow out ∨ (ow out1 = s.next + 1 + 1 ∧ s.next + 1 + 1 ≤ s1.next) := g2
  have fr : ∀ i, i + 1 ≠ ow out → i < s.next → s1.get i = s.get i := fun i hi hlt => (g4 i hi (by show i < s.next + 1; omega)).trans (get_new_ne _ _ _ (by omega))
  exact hW out1 s1 ⟨g1, by omega, by omega, ⟨by omega, fun i hi => (fr i (by omega) (by omega)).trans (h4.old i hi)⟩⟩ (by omega) fr (by omega)
theorem Wr.str {s0 s : St} {out : Value} {L : List UInt8} (h : Wr s0 s out L) (b : ByteArray) (hsz : L.length + b.size ≤ 1099511627776) {W : Value → St → Prop}
    (hW : ∀ out1 s1, Wr s0 s1 out1 (L ++ b.data.toList) → s.next ≤ s1.next → (∀ i, i + 1 ≠ ow out → i < s.next → s1.get i = s.get i) → (ow out1 = ow out ∨ s.next < ow out1) → W out1 s1) : wopK (.append 1 1) [out, .string b] s W := by
  obtain ⟨h1, h2, h3, h4⟩ := h
  have hfn := h4.nx
  refine append_str h1 b hsz fun out1 s1 g1 g2 g3 g4 => ?_
  exact hW out1 s1 ⟨g1, by omega, by omega, ⟨by omega, fun i hi => (g4 i (by omega) (by omega)).trans (h4.old i hi)⟩⟩ g3 g4 (by omega)

/-- the text of the first items, and what stands ahead of the next -/
def upText (l : List IM) (i : Nat) : List UInt8 := Lib.join ((l.take i).map itText) [44]

/-- between two items -/
def VL1 (s0 : St) (lv : Value) (l : List IM) (vs : List Value) (s : St) : Prop :=
  ∃ (j : Nat) (out : Value), vs = [lv, out, .int .i64 (j : Nat)] ∧ j ≤ l.length ∧ Wr s0 s out (upText l j) ∧ (upText l j).length ≤ 90000 * j

/-- between two names, T: what stands ahead of the item -/
def VL2 (s0 : St) (lv : Value) (x : IM) (j : Nat) (T : List UInt8) (vs : List Value) (s : St) : Prop :=
  ∃ (k : Nat) (out : Value), vs = [lv, out, .int .i64 (j : Nat), .int .i64 (k : Nat)] ∧ k ≤ x.names.length ∧ Wr s0 s out (T ++ Lib.join ((x.names.take k).map (·.data.toList)) [61])

/-- between two marks -/
def VL3 (s0 : St) (lv mv : Value) (x : IM) (j : Nat) (T : List UInt8) (vs : List Value) (s : St) : Prop :=
  ∃ (k : Nat) (out : Value), vs = [lv, out, .int .i64 (j : Nat), mv, .int .i64 (k : Nat)] ∧ k ≤ 6 ∧ Wr s0 s out (T ++ mkUp x.mks k) ∧ ow out ≠ ow mv ∧
    Cel s mv [.bool x.mks.a, .bool x.mks.k, .bool x.mks.s, .bool x.mks.n, .bool x.mks.m, .bool x.mks.f] ∧ ow mv ≤ s.next ∧ s0.next + 1 ≤ ow mv

section
variable {st : St} {K : Value → St → Prop}

set_option maxHeartbeats 4000000 in
theorem kUsageR (n : Nat) (t : ByteArray) (ht : t.size < 80000) (h : ∀ l e st', TmA t l e → Frm st st' → K (.tuple #[.string (if e = 0 then bs (usText l) else .empty), .int .i64 e]) st') :
    callK (callO T0 orc fns 100000 (n + 4)) 20 [.string t] st K := by
  refine fn_runs (fn := g20) ?_ ?_ ?_
  · rfl
  · rfl
  unfold g20
  simp (disch := omega) only [↓sxA, ↓wk_store, sxB, sxP, Nat.reduceLeDiff, reduceCtorEq, Nat.reduceEqDiff, Nat.reduceAdd, Int.reduceLT, Int.reduceLE, Int.reduceEq, Nat.reduceLT, Int.reduceToNat, Int.reduceAdd, Int.reduceSub, ↓reduceIte]
  refine kTemplateR n t ht fun l e lv s0 hT hR F0 => ?_
  obtain ⟨hl20, hle, hb⟩ := tm_bounds hT
  by_cases he : e = 0
  case neg =>
    have he' : (e = 0) = False := eq_false he
    have hh := h l e s0 hT F0
    rw [if_neg he] at hh
    simp (disch := omega) only [↓sxA, ↓wk_store, sxB, sxP, Nat.reduceLeDiff, reduceCtorEq, Nat.reduceEqDiff, Nat.reduceAdd, Int.reduceLT, Int.reduceLE, Int.reduceEq, Nat.reduceLT, Int.reduceToNat, Int.reduceAdd, Int.reduceSub, ↓reduceIte, he']
    exact hh
  subst he
  have hln := hR.len
  simp (disch := omega) only [↓sxA, ↓wk_store, sxB, sxP, Nat.reduceLeDiff, reduceCtorEq, Nat.reduceEqDiff, Nat.reduceAdd, Int.reduceLT, Int.reduceLE, Int.reduceEq, Nat.reduceLT, Int.reduceToNat, Int.reduceAdd, Int.reduceSub, ↓reduceIte]
  refine loop_rule [4, 6, 7] (VL1 s0 lv l) (fun vs _ => match lget vs 2 with
      | .int _ k => ((l.length : Int) - k).toNat
      | _ => 0) ?_ ?_ ?_
  · rfl
  · refine ⟨_, rfl, ⟨0, _, rfl, Nat.zero_le _, ⟨Gro.nil _, .inl rfl, Nat.zero_le _, Frm.refl _⟩, Nat.zero_le _⟩, ?_⟩
    show ((l.length : Int) - 0).toNat < 100000
    omega
  · rintro vs s ⟨j, out, rfl, hj, hw, hgl⟩
    show sx _ _ _ _ _ [(4, _), (6, _), (7, _)] _ _ _ _
    have F := hw.2.2.2
    by_cases hjl : j < l.length
    · have hx : l[j] ∈ l := List.getElem_mem hjl
      obtain ⟨b1, b2, b3⟩ := hb _ hx
      have hup : upText l (j + 1) = upText l j ++ (if j = 0 then [] else [44]) ++ itText l[j] := by
        have htk : l.take (j + 1) = l.take j ++ [l[j]] := by rw [List.take_add_one, List.getElem?_eq_getElem hjl]; rfl
        rw [upText, htk, List.map_append, List.map_cons, List.map_nil, join_snoc]
        have : ((l.take j).map itText = []) ↔ j = 0 := by
          rw [List.map_eq_nil_iff, List.take_eq_nil_iff]
          constructor
          · rintro (h | h)
            · exact h
            · rw [h] at hjl; simp at hjl
          · exact .inl
        by_cases h0 : j = 0
        · rw [if_pos h0, if_pos (this.2 h0)]; rfl
        · rw [if_neg h0, if_neg (fun h => h0 (this.1 h))]; rfl
      obtain ⟨bb, nv, q1, q3, q4, q7⟩ := hR.at2 hjl
      generalize l[j] = x at b1 b2 b3 hup q3 q4
      have hitl : (itText x).length ≤ t.size + 13 := by
        have := mkUp_len x.mks 6
        rw [mkUp6] at this
        rw [itText, List.length_append]
        omega
      have hJl : (itText x).length = (Lib.join (x.names.map (·.data.toList)) [61]).length + (mkText x.mks).length := by rw [itText, List.length_append]
      -- what stands ahead of the item
      obtain ⟨T, hT'⟩ : ∃ T, T = upText l j ++ (if j = 0 then [] else [44]) := ⟨_, rfl⟩
      have hTl : T.length ≤ 90000 * j + 1 := by
        rw [hT', List.length_append]
        split <;> simp <;> omega
      rw [← hT'] at hup
      have names : ∀ s', Frm s0 s' → Cel s' nv (x.names.map Value.string) := fun s' F' => q4.keep fun i hi => F'.old i (by omega)
      have hmeasj : ((l.length : Int) - ((j : Int) + 1)).toNat < ((l.length : Int) - (j : Int)).toNat := by omega
      have loop2 : ∀ s1 out1, Wr s0 s1 out1 T → VL2 s0 lv x j T [lv, out1, .int .i64 (j : Nat), .int .i64 0] s1 := fun s1 out1 g1 =>
        ⟨0, out1, rfl, Nat.zero_le _, by simpa [Lib.join_nil] using g1⟩
      have hjk : ∀ k, (Lib.join ((x.names.take k).map (·.data.toList)) [61]).length ≤ t.size + 1 := fun k => by
        have := join_le [61] ((x.names.drop k).map (·.data.toList)) ((x.names.take k).map (·.data.toList))
        rw [← List.map_append, List.take_append_drop] at this
        omega
      have nsz : ∀ k, k < x.names.length → (x.names.getD k .empty).size ≤ t.size + 1 := fun k hk => by
        have e : x.names.take (k + 1) = x.names.take k ++ [x.names.getD k .empty] := by rw [List.take_add_one, List.getElem?_eq_getElem hk, List.getD_eq_getElem?_getD, List.getElem?_eq_getElem hk]; rfl
        have h1 := hjk (k + 1)
        rw [e, List.map_append, List.map_cons, List.map_nil, join_snoc, List.length_append] at h1
        rw [size_list]
        omega
      rcases Nat.eq_zero_or_pos j with hj0 | hj0
      case' inl =>
        have hi := loop2 s out (by rw [hT', if_pos hj0, List.append_nil]; exact hw)
        simp (disch := omega) only [↓sxA, ↓wk_store, sxB, sxP, Nat.reduceLeDiff, reduceCtorEq, Nat.reduceEqDiff, Nat.reduceAdd, Int.reduceLT, Int.reduceLE, Int.reduceEq, Nat.reduceLT, Int.reduceToNat, Int.reduceAdd, Int.reduceSub, ↓reduceIte, ↓hln]
      case' inr =>
        simp (disch := omega) only [↓sxA, ↓wk_store, sxB, sxP, Nat.reduceLeDiff, reduceCtorEq, Nat.reduceEqDiff, Nat.reduceAdd, Int.reduceLT, Int.reduceLE, Int.reduceEq, Nat.reduceLT, Int.reduceToNat, Int.reduceAdd, Int.reduceSub, ↓reduceIte, ↓hln]
        refine hw.row (m := [44]) rfl (by decide) (by show _ + 1 ≤ _; omega) fun out1 s1 g1 _ _ _ => ?_
        have hi := loop2 s1 out1 (by rw [hT', if_neg (by omega)]; exact g1)
        simp (disch := omega) only [↓sxA, ↓wk_store, sxB, sxP, Nat.reduceLeDiff, reduceCtorEq, Nat.reduceEqDiff, Nat.reduceAdd, Int.reduceLT, Int.reduceLE, Int.reduceEq, Nat.reduceLT, Int.reduceToNat, Int.reduceAdd, Int.reduceSub, ↓reduceIte]
      all_goals
        refine loop_rule [4, 6, 7, 8] (VL2 s0 lv x j T) (fun vs _ => match lget vs 3 with
            | .int _ k => ((x.names.length : Int) - k).toNat
            | _ => 0) ?_ ?_ ?_
        · rfl
        · refine ⟨_, rfl, hi, ?_⟩
          show ((x.names.length : Int) - 0).toNat < 100000
          omega
        · clear hi
          rintro vs s2 ⟨k, out2, rfl, hk, hw2⟩
          show sx _ _ _ _ _ [(4, _), (6, _), (7, _), (8, _)] _ _ _ _
          have F2 := hw2.2.2.2
          have l0 := q3 s2 F2 0 nv rfl
          have lnv := len_cel (names s2 F2)
          rw [List.length_map] at lnv
          have hkl := hjk k
          by_cases hkn : k < x.names.length
          · have hks := nsz k hkn
            have htk : Lib.join ((x.names.take (k + 1)).map (·.data.toList)) [61] = Lib.join ((x.names.take k).map (·.data.toList)) [61] ++ (if k = 0 then [] else [61]) ++ (x.names.getD k .empty).data.toList := by
              have e : x.names.take (k + 1) = x.names.take k ++ [x.names.getD k .empty] := by rw [List.take_add_one, List.getElem?_eq_getElem hkn, List.getD_eq_getElem?_getD, List.getElem?_eq_getElem hkn]; rfl
              rw [e, List.map_append, List.map_cons, List.map_nil, join_snoc]
              have : ((x.names.take k).map (·.data.toList) = []) ↔ k = 0 := by
                rw [List.map_eq_nil_iff, List.take_eq_nil_iff]
                exact ⟨fun h => h.elim id (fun h => (b1 h).elim), .inl⟩
              by_cases h0 : k = 0
              · rw [if_pos h0, if_pos (this.2 h0)]
              · rw [if_neg h0, if_neg (fun h => h0 (this.1 h))]
            have ixk := idx_cel (names s2 F2) .i64 (k : Int)
            rw [List.length_map] at ixk
            have ldk : ∀ s', Frm s0 s' → ∀ K : Value → Prop, ropK .load1 [bptr nv (k : Int)] s' K = K (.string (x.names.getD k .empty)) := fun s' F' K => by
              rw [load_cel (names s' F') (k : Int) K (by omega) (by rw [List.length_map]; omega), Int.toNat_natCast, getD_str _ k hkn]
            have ld2 := ldk s2 F2
            generalize x.names.getD k .empty = q at hks htk ldk ld2
            have hmk : ((x.names.length : Int) - ((k : Int) + 1)).toNat < ((x.names.length : Int) - (k : Int)).toNat := by omega
            rcases Nat.eq_zero_or_pos k with hk0 | hk0
            · simp (disch := omega) only [↓sxA, ↓wk_store, sxB, sxP, Nat.reduceLeDiff, reduceCtorEq, Nat.reduceEqDiff, Nat.reduceAdd, Int.reduceLT, Int.reduceLE, Int.reduceEq, Nat.reduceLT, Int.reduceToNat, Int.reduceAdd, Int.reduceSub, ↓reduceIte, ↓q1, ↓l0, ↓lnv, ↓ixk, ↓ld2]
              refine hw2.str q (by rw [List.length_append]; omega) fun out3 s3 g1 _ _ _ => ?_
              simp (disch := omega) only [↓sxA, ↓wk_store, sxB, sxP, Nat.reduceLeDiff, reduceCtorEq, Nat.reduceEqDiff, Nat.reduceAdd, Int.reduceLT, Int.reduceLE, Int.reduceEq, Nat.reduceLT, Int.reduceToNat, Int.reduceAdd, Int.reduceSub, ↓reduceIte]
              refine ⟨_, rfl, ⟨k + 1, out3, rfl, hkn, ?_⟩, hmk⟩
              rw [htk, if_pos hk0, List.append_nil, ← List.append_assoc]
              exact g1
            · simp (disch := omega) only [↓sxA, ↓wk_store, sxB, sxP, Nat.reduceLeDiff, reduceCtorEq, Nat.reduceEqDiff, Nat.reduceAdd, Int.reduceLT, Int.reduceLE, Int.reduceEq, Nat.reduceLT, Int.reduceToNat, Int.reduceAdd, Int.reduceSub, ↓reduceIte, ↓q1, ↓l0, ↓lnv]
              refine hw2.row (m := [61]) rfl (by decide) (by rw [List.length_append]; show _ + 1 ≤ _; omega) fun out3 s3 g1 _ _ _ => ?_
              have F3 := g1.2.2.2
              have l3 := q3 s3 F3 0 nv rfl
              have ld3 := ldk s3 F3
              simp (disch := omega) only [↓sxA, ↓wk_store, sxB, sxP, Nat.reduceLeDiff, reduceCtorEq, Nat.reduceEqDiff, Nat.reduceAdd, Int.reduceLT, Int.reduceLE, Int.reduceEq, Nat.reduceLT, Int.reduceToNat, Int.reduceAdd, Int.reduceSub, ↓reduceIte, ↓q1, ↓l3, ↓ixk, ↓ld3]
              refine g1.str q (by simp only [List.length_append, List.length_cons, List.length_nil]; omega) fun out4 s4 g5 _ _ _ => ?_
              simp (disch := omega) only [↓sxA, ↓wk_store, sxB, sxP, Nat.reduceLeDiff, reduceCtorEq, Nat.reduceEqDiff, Nat.reduceAdd, Int.reduceLT, Int.reduceLE, Int.reduceEq, Nat.reduceLT, Int.reduceToNat, Int.reduceAdd, Int.reduceSub, ↓reduceIte]
              refine ⟨_, rfl, ⟨k + 1, out4, rfl, hkn, ?_⟩, hmk⟩
              rw [htk, if_neg (by omega), ← List.append_assoc, ← List.append_assoc]
              exact g5
          · have hall : x.names.take k = x.names := List.take_of_length_le (by omega)
            rw [hall] at hw2
            have l1 := q3 s2 F2 1 _ rfl
            have l2 := q3 s2 F2 2 _ rfl
            have l3 := q3 s2 F2 3 _ rfl
            have l4 := q3 s2 F2 4 _ rfl
            have l5 := q3 s2 F2 5 _ rfl
            have l6 := q3 s2 F2 6 _ rfl
            simp (disch := omega) only [↓sxA, ↓wk_store, sxB, sxP, Nat.reduceLeDiff, reduceCtorEq, Nat.reduceEqDiff, Nat.reduceAdd, Int.reduceLT, Int.reduceLE, Int.reduceEq, Nat.reduceLT, Int.reduceToNat, Int.reduceAdd, Int.reduceSub, ↓reduceIte, ↓q1, ↓l0, ↓lnv, ↓l1, ↓l2, ↓l3, ↓l4, ↓l5, ↓l6]
            obtain ⟨w1, w2, w3, w4⟩ := hw2
            have hfn := w4.nx
            refine loop_rule [4, 6, 7, 9, 10] (VL3 s0 lv (.slice (some ⟨s2.next, 0, none⟩) 6 6) x j (T ++ Lib.join (x.names.map (·.data.toList)) [61])) (fun vs _ => match lget vs 4 with
                | .int _ k => (6 - k).toNat
                | _ => 0) ?_ ?_ ?_
            · rfl
            · refine ⟨_, rfl, ⟨0, out2, rfl, by decide, ⟨?_, w2, ?_, w4.trans (Frm.new _ _)⟩, ?_, cel_row (get_new_same _ _) rfl, ?_, ?_⟩, ?_⟩
              · simp only [mkUp, List.append_nil]
                exact w1.keep fun i hi => get_new_ne _ _ _ (by omega)
              · show ow out2 ≤ s2.next + 1; omega
              · show ow out2 ≠ s2.next + 1; omega
              · show s2.next + 1 ≤ s2.next + 1; omega
              · show s0.next + 1 ≤ s2.next + 1; omega
              · show (6 - (0 : Int)).toNat < 100000; decide
            · clear w1 w2 w3 w4 l0 l1 l2 l3 l4 l5 l6 lnv
              generalize hmv : Value.slice (some ⟨s2.next, 0, none⟩) 6 6 = mv
              have lmv : ∀ K : Value → Prop, popK .lenSl [mv] K = K (.int .i64 6) := fun K => by rw [← hmv, pk_lenSl]; rfl
              rintro vs s4 ⟨k, out4, rfl, hk6, hw4, hne, hcm, hmn, hml⟩
              show sx _ _ _ _ _ [(4, _), (6, _), (7, _), (9, _), (10, _)] _ _ _ _
              have hmu := mkUp_len x.mks k
              have hb3 := hjk x.names.length
              rw [List.take_length] at hb3
              by_cases hk : k < 6
              · have hmk : (6 - ((k : Int) + 1)).toNat < (6 - (k : Int)).toNat := by omega
                have ixm := idx_cel hcm .i64 (k : Int)
                have ldm : ∀ K : Value → Prop, ropK .load1 [bptr mv (k : Int)] s4 K = K (.bool (x.mks.bit k)) := fun K => by
                  rw [load_cel hcm (k : Int) K (by omega) (by simp only [List.length_cons, List.length_nil]; omega)]
                  have hb : [Value.bool x.mks.a, .bool x.mks.k, .bool x.mks.s, .bool x.mks.n, .bool x.mks.m, .bool x.mks.f].getD (k : Int).toNat undef = .bool (x.mks.bit k) := by
                    match k, hk with
                    | 0, _ | 1, _ | 2, _ | 3, _ | 4, _ | 5, _ => rfl
                  rw [hb]
                simp only [List.length_cons, List.length_nil] at ixm
                cases hbit : x.mks.bit k with
                | false =>
                  rw [hbit] at ldm
                  simp (disch := omega) only [↓sxA, ↓wk_store, sxB, sxP, Nat.reduceLeDiff, reduceCtorEq, Nat.reduceEqDiff, Nat.reduceAdd, Int.reduceLT, Int.reduceLE, Int.reduceEq, Nat.reduceLT, Int.reduceToNat, Int.reduceAdd, Int.reduceSub, ↓reduceIte, ↓lmv, ↓ixm, ↓ldm]
                  refine ⟨_, rfl, ⟨k + 1, out4, rfl, by omega, ?_, hne, hcm, hmn, hml⟩, hmk⟩
                  rw [mkUp, hbit]
                  simpa using hw4
                | true =>
                  rw [hbit] at ldm
                  obtain ⟨b, hb, hbl⟩ : ∃ b : UInt8, (lt k).data.toList = [b] ∧ order.data.toList.getD k 0 = b := by
                    match k, hk with
                    | 0, _ | 1, _ | 2, _ | 3, _ | 4, _ | 5, _ => exact ⟨_, rfl, rfl⟩
                  have ic : ∀ K : Value → Prop, popK .indexStr [.string ⟨#[97, 107, 115, 110, 109, 102]⟩, .int .i64 (k : Int)] K = K (.int .u8 b.toNat) := fun K => by
                    have := q_indexStr (K := K) order .i64 (k : Int) (by omega) (by show (k : Int) < 6; omega)
                    rw [Int.toNat_natCast, hbl] at this
                    exact this
                  simp (disch := omega) only [↓sxA, ↓wk_store, sxB, sxP, Nat.reduceLeDiff, reduceCtorEq, Nat.reduceEqDiff, Nat.reduceAdd, Int.reduceLT, Int.reduceLE, Int.reduceEq, Nat.reduceLT, Int.reduceToNat, Int.reduceAdd, Int.reduceSub, ↓reduceIte, ↓lmv, ↓ixm, ↓ldm, ↓ic]
                  refine hw4.row (m := [47, b]) rfl (Nat.succ_pos _) (by simp only [List.length_append, List.length_cons, List.length_nil]; omega) fun out5 s5 g1 g2 g3 g4 => ?_
                  simp (disch := omega) only [↓sxA, ↓wk_store, sxB, sxP, Nat.reduceLeDiff, reduceCtorEq, Nat.reduceEqDiff, Nat.reduceAdd, Int.reduceLT, Int.reduceLE, Int.reduceEq, Nat.reduceLT, Int.reduceToNat, Int.reduceAdd, Int.reduceSub, ↓reduceIte]
                  refine ⟨_, rfl, ⟨k + 1, out5, rfl, by omega, ?_, by omega, hcm.keep fun i hi => g3 i (by omega) (by omega), by omega, hml⟩, hmk⟩
                  rw [mkUp, hbit, hb, ← List.append_assoc]
                  exact g1
              · have e6 : k = 6 := by omega
                subst e6
                simp (disch := omega) only [↓sxA, ↓wk_store, sxB, sxP, Nat.reduceLeDiff, reduceCtorEq, Nat.reduceEqDiff, Nat.reduceAdd, Int.reduceLT, Int.reduceLE, Int.reduceEq, Nat.reduceLT, Int.reduceToNat, Int.reduceAdd, Int.reduceSub, ↓reduceIte, ↓lmv]
                rw [mkUp6, List.append_assoc] at hw4
                have hitx : itText x = Lib.join (x.names.map (·.data.toList)) [61] ++ mkText x.mks := rfl
                rw [← hitx, ← hup] at hw4
                refine ⟨_, rfl, ⟨j + 1, out4, rfl, hjl, hw4, ?_⟩, hmeasj⟩
                rw [hup, List.length_append]
                omega
    · have hup : upText l j = usText l := by rw [upText, List.take_of_length_le (by omega)]; rfl
      have hgs := fun K => rk_str (K := K) hw.1
      simp (disch := omega) only [↓sxA, ↓wk_store, sxB, sxP, Nat.reduceLeDiff, reduceCtorEq, Nat.reduceEqDiff, Nat.reduceAdd, Int.reduceLT, Int.reduceLE, Int.reduceEq, Nat.reduceLT, Int.reduceToNat, Int.reduceAdd, Int.reduceSub, ↓reduceIte, ↓hln, ↓hgs]
      have hh := h l 0 s hT (F0.trans F)
      rw [if_pos rfl] at hh
      rw [hup]
      exact hh
end
end Go.Proofs.YtdmemibnphcedaaGreatDoor
