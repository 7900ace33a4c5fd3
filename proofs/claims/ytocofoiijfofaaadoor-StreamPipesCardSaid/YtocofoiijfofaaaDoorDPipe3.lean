/-
  StreamPipes: what holds when the writer is closed.
-/
import Derived.Test.YtocofoiijfofaaaDoorDPipe1
set_option linter.unusedSimpArgs false
set_option linter.unusedVariables false
set_option maxRecDepth 10000
namespace Go.Proofs.YtocofoiijfofaaaDoor
open Go.Am
attribute [local irreducible] callO wopK ropK popK opK grpsE listE sx Runs

structure PJ (s0 s : St) (N e : Nat) (v sv gv : Value) (l sent got : List UInt8) : Prop where
  base : ∀ i, i < N → s.get i = s0.get i
  nN : N = s0.next
  n0 : 0 < N
  mx : hasMax s0 = true
  str : ∃ last, StrAt s N (N + 1) (N + 2) (N + 3) (N + 4) last
  pip : s.get (N + 2) = some (.map [(.string sP, .pointer (some ⟨N + 5, 0, none⟩), 0)] 1)
  hnd : ∃ c k, s.get (N + 4) = some (.map [(.int .i64 2, endV e, c)] k)
  pp : s.get (N + 5) = some (pipeRow v true false true true)
  en : s.get e = some (endRow sP (N + 5) true)
  ne : N + 7 ≤ e
  en_ : e < s.next
  gl : Gro s v l
  gs : Gro s sv sent
  gg : Gro s gv got
  ol : ow v = 0 ∨ (N + 8 ≤ ow v ∧ ow v ≤ s.next)
  os : ow sv = 0 ∨ (N + 8 ≤ ow sv ∧ ow sv ≤ s.next)
  og : ow gv = 0 ∨ (N + 8 ≤ ow gv ∧ ow gv ≤ s.next)
  xg : ow gv ≠ e + 1
  d2 : ow v = ow gv → ow v = 0
  d3 : ow sv = ow gv → ow sv = 0
  all : sent = got ++ l
  l64 : l.length ≤ 64
  big : sent.length ≤ 50000

theorem PJ.read {s0 s : St} {N e : Nat} {v sv gv : Value} {l sent got : List UInt8} (h : PJ s0 s N e v sv gv l sent got) (n : Nat) {x : Int} {K : Value → St → Prop} (hx : 1 ≤ x) (hx2 : x ≤ 100)
    (h1 : l = [] → K (.tuple #[.slice none 0 0, .bool true, .int .i64 0]) s)
    (h3 : l ≠ [] → ∀ u v' st', Gro st' u (l.take x.toNat) → Gro st' v' (l.drop x.toNat) → ow v' = ow v → (ow u = 0 ∨ (s.next + 1 ≤ ow u ∧ ow u ≤ st'.next)) → s.next ≤ st'.next → (∀ i, i ≠ N + 5 → i < s.next → st'.get i = s.get i) → st'.get (N + 5) = some (pipeRow v' true false true true) →
      K (.tuple #[u, .bool false, .int .i64 0]) st') :
    callK (callO T0 orc fns 100000 (n + 3)) 12 [.pointer (some ⟨N, 0, none⟩), .int .i64 2, .int .i64 x] s K := by
  have hol := h.ol
  have h1' := h.ne
  have h2' := h.en_
  obtain ⟨last, hstr⟩ := h.str
  obtain ⟨c, k, hh⟩ := h.hnd
  exact rPipe n hstr hh rfl h.en h.pp h.gl h.l64 hx (by omega) (by omega) (by omega) (by omega) (fun _ q => by simp at q) (fun q _ _ => h1 q) h3

theorem PJ.got_ {s0 s s1 s2 : St} {N e : Nat} {v v' sv gv gv' : Value} {l sent got : List UInt8} {k : Nat} (h : PJ s0 s N e v sv gv l sent got)
    (a1 : Gro s1 v' (l.drop k)) (a2 : ow v' = ow v) (a3 : s.next ≤ s1.next) (a4 : ∀ i, i ≠ N + 5 → i < s.next → s1.get i = s.get i) (a5 : s1.get (N + 5) = some (pipeRow v' true false true true))
    (b1 : Gro s2 gv' (got ++ l.take k)) (b2 : ow gv' = ow gv ∨ (ow gv' = s1.next + 1 ∧ s1.next + 1 ≤ s2.next)) (b3 : s1.next ≤ s2.next) (b4 : ∀ i, i + 1 ≠ ow gv → i < s1.next → s2.get i = s1.get i) :
    PJ s0 s2 N e v' sv gv' (l.drop k) sent (got ++ l.take k) := by
  have h1 := h.ol
  have h2 := h.os
  have h3 := h.og
  have h4 := h.xg
  have h5 := h.d2
  have h6 := h.d3
  have h7 := h.ne
  have h8 := h.en_
  have old : ∀ i, i < s.next → i + 1 ≠ ow gv → i ≠ N + 5 → s2.get i = s.get i := fun i i1 i3 i4 => (b4 i i3 (by omega)).trans (a4 i i4 i1)
  have small : ∀ i, i ≤ N + 6 → i ≠ N + 5 → s2.get i = s.get i := fun i i1 i2 => old i (by omega) (by omega) i2
  have l64 := h.l64
  obtain ⟨last, hstr⟩ := h.str
  obtain ⟨c, k', hh⟩ := h.hnd
  exact {
    base := fun i hi => (small i (by omega) (by omega)).trans (h.base i hi)
    nN := h.nN
    n0 := h.n0
    mx := h.mx
    str := ⟨last, (small N (by omega) (by omega)).trans hstr⟩
    pip := (small _ (by omega) (by omega)).trans h.pip
    hnd := ⟨c, k', (small _ (by omega) (by omega)).trans hh⟩
    pp := (b4 _ (by omega) (by omega)).trans a5
    en := (old e (by omega) (by omega) (by omega)).trans h.en
    ne := h7
    en_ := by omega
    gl := a1.keep fun i hi => b4 i (by omega) (by omega)
    gs := h.gs.keep fun i hi => old i (by omega) (by omega) (by omega)
    gg := b1
    ol := by omega
    os := by omega
    og := by omega
    xg := by omega
    d2 := by omega
    d3 := by omega
    all := by rw [h.all, List.append_assoc, List.take_append_drop]
    l64 := by simp only [List.length_drop]; omega
    big := h.big }

/-- the writer is closed, the reader is there -/
theorem PI.closeW1 {s0 s : St} {N lo e : Nat} {v sv gv : Value} {l sent got : List UInt8} (h : PI s0 s N lo (some e) v sv gv l sent got) (n : Nat) {K : Value → St → Prop}
    (hK : ∀ s', PJ s0 s' N e v sv gv l sent got → K (.int .i64 0) s') :
    callK (callO T0 orc fns 100000 (n + 2)) 13 [.pointer (some ⟨N, 0, none⟩), .int .i64 1] s K := by
  have hlo := h.lo_
  have hlon := h.lon
  have h1 := h.ol
  have h2 := h.os
  have h3 := h.og
  have h4 := h.d1
  have h5 := h.d2
  have h6 := h.d3
  obtain ⟨e1, e2, e3⟩ := h.er_ e rfl
  refine kClose (n + 1) h.str h.hnd (hnds_w N (some e)) (fc := 123) rfl ?_
  refine endKeep n (p := N) (f := N + 1) (q := N + 2) (a := N + 3) (h := N + 4) (e := N + 6) (pp := N + 5) (last := 2) (nm := sP) (v := v) (rd := false) (w1 := true) (w2 := true) (r1 := true) (r2 := true) ?_ ?_ ?_ (by omega) (by omega) (.inl rfl) ?_
  · show St.get _ _ = _
    rw [get_put_ne _ _ _ _ (by omega)]; exact h.str
  · rw [get_put_ne _ _ _ _ (by omega)]; exact h.ew
  · rw [get_put_ne _ _ _ _ (by omega)]; exact h.pp
  have old : ∀ i, i ≠ N + 4 → i ≠ N + 5 → ((s.put (N + 4) (some (.map ((hnds N (some e)).eraseIdx 0) (bif (some e).isSome then 2 else 1)))).put (N + 5) (some (pipeRow v true (false && true) true (!false && true)))).get i = s.get i := fun i i1 i2 => by
    rw [get_put_ne _ _ _ _ (by omega), get_put_ne _ _ _ _ (by omega)]
  refine hK _ {
    base := fun i hi => (old i (by omega) (by omega)).trans (h.base i hi)
    nN := h.nN
    n0 := h.n0
    mx := h.mx
    str := ⟨2, (old _ (by omega) (by omega)).trans h.str⟩
    pip := (old _ (by omega) (by omega)).trans h.pip
    hnd := ⟨1, 2, by rw [get_put_ne _ _ _ _ (by omega), get_put_same]; rfl⟩
    pp := get_put_same _ _ _
    en := (old _ (by omega) (by omega)).trans e1
    ne := e2
    en_ := by show e < s.next; omega
    gl := h.gl.keep fun i hi => old i (by omega) (by omega)
    gs := h.gs.keep fun i hi => old i (by omega) (by omega)
    gg := h.gg.keep fun i hi => old i (by omega) (by omega)
    ol := by show _ ∨ (_ ∧ ow v ≤ s.next); omega
    os := by show _ ∨ (_ ∧ ow sv ≤ s.next); omega
    og := by show _ ∨ (_ ∧ ow gv ≤ s.next); omega
    xg := by omega
    d2 := h5
    d3 := h6
    all := h.all
    l64 := h.l64
    big := h.big }

/-- the writer is closed, no reader yet; then the reader comes -/
theorem PI.closeW0 {s0 s : St} {N lo : Nat} {v sv gv : Value} {l sent got : List UInt8} (h : PI s0 s N lo none v sv gv l sent got) (n : Nat) {K : Value → St → Prop}
    (hK : ∀ s', (∀ n' K', (∀ s'', PJ s0 s'' N s'.next v sv gv l sent got → K' (.tuple #[.int .i64 2, .int .i64 0]) s'') → callK (callO T0 orc fns 100000 (n' + 4)) 10 [.pointer (some ⟨N, 0, none⟩), .string sPP, .int .i64 0] s' K') → K (.int .i64 0) s') :
    callK (callO T0 orc fns 100000 (n + 2)) 13 [.pointer (some ⟨N, 0, none⟩), .int .i64 1] s K := by
  have hlo := h.lo_
  have hlon := h.lon
  have h1 := h.ol
  have h2 := h.os
  have h3 := h.og
  have h4 := h.d1
  have h5 := h.d2
  have h6 := h.d3
  refine kClose (n + 1) h.str h.hnd (hnds_w N none) (fc := 123) rfl ?_
  refine endKeep n (p := N) (f := N + 1) (q := N + 2) (a := N + 3) (h := N + 4) (e := N + 6) (pp := N + 5) (last := 1) (nm := sP) (v := v) (rd := false) (w1 := true) (w2 := true) (r1 := false) (r2 := false) ?_ ?_ ?_ (by omega) (by omega) (.inr (.inl rfl)) ?_
  · show St.get _ _ = _
    rw [get_put_ne _ _ _ _ (by omega)]; exact h.str
  · rw [get_put_ne _ _ _ _ (by omega)]; exact h.ew
  · rw [get_put_ne _ _ _ _ (by omega)]; exact h.pp
  have old : ∀ i, i ≠ N + 4 → i ≠ N + 5 → ((s.put (N + 4) (some (.map ((hnds N none).eraseIdx 0) (bif (none : Option Nat).isSome then 2 else 1)))).put (N + 5) (some (pipeRow v true (false && true) false (!false && false)))).get i = s.get i := fun i i1 i2 => by
    rw [get_put_ne _ _ _ _ (by omega), get_put_ne _ _ _ _ (by omega)]
  have ehn : ((s.put (N + 4) (some (.map ((hnds N none).eraseIdx 0) (bif (none : Option Nat).isSome then 2 else 1)))).put (N + 5) (some (pipeRow v true (false && true) false (!false && false)))).get (N + 4) = some (.map [] 1) := by
    rw [get_put_ne _ _ _ _ (by omega), get_put_same]; rfl
  have epp : ((s.put (N + 4) (some (.map ((hnds N none).eraseIdx 0) (bif (none : Option Nat).isSome then 2 else 1)))).put (N + 5) (some (pipeRow v true (false && true) false (!false && false)))).get (N + 5) = some (pipeRow v true false false false) := get_put_same _ _ _
  have enx : ((s.put (N + 4) (some (.map ((hnds N none).eraseIdx 0) (bif (none : Option Nat).isSome then 2 else 1)))).put (N + 5) (some (pipeRow v true (false && true) false (!false && false)))).next = s.next := rfl
  generalize (s.put (N + 4) (some (.map ((hnds N none).eraseIdx 0) (bif (none : Option Nat).isSome then 2 else 1)))).put (N + 5) (some (pipeRow v true (false && true) false (!false && false))) = s1 at old ehn epp enx
  refine hK s1 fun n' K' hK' => ?_
  have hstr : StrAt s1 N (N + 1) (N + 2) (N + 3) (N + 4) 1 := (old _ (by omega) (by omega)).trans h.str
  have hmx : hasMax s1 = true := (hasMax_of ((old 0 (by omega) (by omega)).trans (h.base 0 h.n0))).trans h.mx
  refine oPipe n' (rd := true) hstr ((old _ (by omega) (by omega)).trans h.asg) ehn hmx StrMap.nil rfl (by decide) (by decide) (by decide) rfl (by omega) ?_
  refine openPipe (n' + 1) (rd := true) hmx rfl ?_
  refine kPipeOld (n' + 1) (rd := true) hstr ((old _ (by omega) (by omega)).trans h.pip) rfl epp (by omega) (by omega) (by omega) (by omega) (by omega) rfl fun st' k1 k2 k3 k4 k5 => ?_
  refine ⟨_, _, rfl, _, rfl, k5 _ (by omega) (by omega) (by omega), k5 _ (by omega) (by omega) (by omega), ?_⟩
  have old2 : ∀ i, i < s1.next → i ≠ N → i ≠ N + 2 → i ≠ N + 4 → i ≠ N + 5 → ∀ o1 o2, ((st'.put N o1).put (N + 4) o2).get i = s.get i := fun i i1 i2 i3 i4 i5 o1 o2 => by
    rw [get_put_ne _ _ _ _ (by omega), get_put_ne _ _ _ _ (by omega), k5 i (by omega) (by omega) (by omega), old i i4 i5]
  refine hK' _ {
    base := fun i hi => (old2 i (by omega) (by omega) (by omega) (by omega) (by omega) _ _).trans (h.base i hi)
    nN := h.nN
    n0 := h.n0
    mx := h.mx
    str := ⟨2, by show St.get _ _ = _; rw [get_put_ne _ _ _ _ (by omega), get_put_same]; rfl⟩
    pip := by rw [get_put_ne _ _ _ _ (by omega), get_put_ne _ _ _ _ (by omega), k4]; rfl
    hnd := ⟨1, 2, by rw [get_put_same]; rfl⟩
    pp := by rw [get_put_ne _ _ _ _ (by omega), get_put_ne _ _ _ _ (by omega), k2]; rfl
    en := by rw [get_put_ne _ _ _ _ (by omega), get_put_ne _ _ _ _ (by omega), k3]
    ne := by omega
    en_ := by show s1.next < st'.next; omega
    gl := h.gl.keep fun i hi => old2 i (by omega) (by omega) (by omega) (by omega) (by omega) _ _
    gs := h.gs.keep fun i hi => old2 i (by omega) (by omega) (by omega) (by omega) (by omega) _ _
    gg := h.gg.keep fun i hi => old2 i (by omega) (by omega) (by omega) (by omega) (by omega) _ _
    ol := by show _ ∨ (_ ∧ ow v ≤ st'.next); omega
    os := by show _ ∨ (_ ∧ ow sv ≤ st'.next); omega
    og := by show _ ∨ (_ ∧ ow gv ≤ st'.next); omega
    xg := by omega
    d2 := h5
    d3 := h6
    all := h.all
    l64 := h.l64
    big := h.big }

/-- the reader is closed, too: no pipe is left -/
theorem PJ.closeR {s0 s : St} {N e : Nat} {v sv gv : Value} {l sent got : List UInt8} (h : PJ s0 s N e v sv gv l sent got) (n : Nat) {K : Value → St → Prop}
    (hK : ∀ s', Gro s' sv sent → Gro s' gv got → (∃ last, StrAt s' N (N + 1) (N + 2) (N + 3) (N + 4) last) → s'.get (N + 2) = some (.map [] 1) → hasMax s' = true → N + 2 < s'.next → K (.int .i64 0) s') :
    callK (callO T0 orc fns 100000 (n + 2)) 13 [.pointer (some ⟨N, 0, none⟩), .int .i64 2] s K := by
  have h1 := h.ol
  have h2 := h.os
  have h3 := h.og
  have h7 := h.ne
  have h8 := h.en_
  obtain ⟨last, hstr⟩ := h.str
  obtain ⟨c, k, hh⟩ := h.hnd
  have hn0 := h.n0
  refine kClose (n + 1) hstr hh (j := 0) rfl (fc := 123) rfl ?_
  refine endDrop n (p := N) (f := N + 1) (q := N + 2) (a := N + 3) (h := N + 4) (e := e) (pp := N + 5) (last := last) (nm := sP) (v := v) (rd := true) (w2 := false) (r2 := true) (qs := [(.string sP, .pointer (some ⟨N + 5, 0, none⟩), 0)]) (qc := 1) (j := 0) (x := .pointer (some ⟨N + 5, 0, none⟩)) ?_ ?_ ?_ (by omega) (by omega) (by omega) ?_ rfl rfl ?_
  · show St.get _ _ = _
    rw [get_put_ne _ _ _ _ (by omega)]; exact hstr
  · rw [get_put_ne _ _ _ _ (by omega)]; exact h.en
  · rw [get_put_ne _ _ _ _ (by omega)]; exact h.pp
  · rw [get_put_ne _ _ _ _ (by omega)]; exact h.pip
  have old : ∀ i, i ≠ N + 4 → i ≠ N + 5 → i ≠ N + 2 → ∀ o1 o2 o3, (((s.put (N + 4) o1).put (N + 5) o2).put (N + 2) o3).get i = s.get i := fun i i1 i2 i3 o1 o2 o3 => by
    rw [get_put_ne _ _ _ _ (by omega), get_put_ne _ _ _ _ (by omega), get_put_ne _ _ _ _ (by omega)]
  refine hK _ (h.gs.keep fun i hi => old i (by omega) (by omega) (by omega) _ _ _) (h.gg.keep fun i hi => old i (by omega) (by omega) (by omega) _ _ _) ⟨last, (old _ (by omega) (by omega) (by omega) _ _ _).trans hstr⟩ (get_put_same _ _ _)
    ((hasMax_of ((old 0 (by omega) (by omega) (by omega) _ _ _).trans (h.base 0 h.n0))).trans h.mx) (by show N + 2 < s.next; omega)
end Go.Proofs.YtocofoiijfofaaaDoor
