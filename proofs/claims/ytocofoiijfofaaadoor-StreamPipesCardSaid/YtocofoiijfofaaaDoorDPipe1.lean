/-
  StreamPipes: what holds between the calls.
-/
import Derived.Test.YtocofoiijfofaaaDoorDOpen
set_option linter.unusedSimpArgs false
set_option linter.unusedVariables false
set_option maxRecDepth 10000
namespace Go.Proofs.YtocofoiijfofaaaDoor
open Go.Am
attribute [local irreducible] callO wopK ropK popK opK grpsE listE sx Runs

abbrev endV (e : Nat) : Value := .iface 78 (.pointer (some ⟨e, 0, none⟩))
/-- the handles: the writer, and the reader if it is there -/
def hnds (N : Nat) : Option Nat → List (Value × Value × Nat)
  | none => [(.int .i64 1, endV (N + 6), 0)]
  | some e => [(.int .i64 1, endV (N + 6), 0), (.int .i64 2, endV e, 1)]

theorem hnds_w (N : Nat) (er : Option Nat) : findV .int (.int .i64 1) (hnds N er) 0 = some (some (0, endV (N + 6))) := by cases er <;> rfl
theorem hnds_r (N e : Nat) : findV .int (.int .i64 2) (hnds N (some e)) 0 = some (some (1, endV e)) := rfl

theorem hasMax_of {s s' : St} (h : s'.get 0 = s.get 0) : hasMax s' = hasMax s := by unfold hasMax; rw [h]

/-- while the writer is open: N: the number of the streams' block; er: the reader's end, if it is there; v: the pipe's row, which holds l -/
structure PI (s0 s : St) (N lo : Nat) (er : Option Nat) (v sv gv : Value) (l sent got : List UInt8) : Prop where
  base : ∀ i, i < N → s.get i = s0.get i
  nN : N = s0.next
  n0 : 0 < N
  mx : hasMax s0 = true
  str : StrAt s N (N + 1) (N + 2) (N + 3) (N + 4) (bif er.isSome then 2 else 1)
  asg : s.get (N + 3) = some (.map [] 0)
  pip : s.get (N + 2) = some (.map [(.string sP, .pointer (some ⟨N + 5, 0, none⟩), 0)] 1)
  hnd : s.get (N + 4) = some (.map (hnds N er) (bif er.isSome then 2 else 1))
  pp : s.get (N + 5) = some (pipeRow v true true er.isSome er.isSome)
  ew : s.get (N + 6) = some (endRow sP (N + 5) false)
  er_ : ∀ e, er = some e → s.get e = some (endRow sP (N + 5) true) ∧ N + 7 ≤ e ∧ e + 2 ≤ lo
  lo_ : N + 8 ≤ lo
  lon : lo ≤ s.next + 1
  gl : Gro s v l
  gs : Gro s sv sent
  gg : Gro s gv got
  ol : ow v = 0 ∨ (lo ≤ ow v ∧ ow v ≤ s.next)
  os : ow sv = 0 ∨ (lo ≤ ow sv ∧ ow sv ≤ s.next)
  og : ow gv = 0 ∨ (lo ≤ ow gv ∧ ow gv ≤ s.next)
  d1 : ow v = ow sv → ow v = 0
  d2 : ow v = ow gv → ow v = 0
  d3 : ow sv = ow gv → ow sv = 0
  all : sent = got ++ l
  l64 : l.length ≤ 64
  big : sent.length ≤ 50000

/-- a row that is another one than those that have turned is as it was -/
theorem PI.write {s0 s : St} {N lo : Nat} {er : Option Nat} {v sv gv u : Value} {l sent got m : List UInt8} (h : PI s0 s N lo er v sv gv l sent got) (n : Nat) {K : Value → St → Prop} (hu : Bys s0 u m) (hu2 : ow u ≤ N) (hm : m.length ≤ 1000)
    (h1 : ∀ st', (∀ i, i < s.next → st'.get i = s.get i) → s.next ≤ st'.next → K (.tuple #[.int .i64 0, .int .i64 5]) st')
    (h2 : ∀ v' st', Gro st' v' (l ++ m.take (64 - l.length)) → (ow v' = ow v ∨ (s.next + 1 ≤ ow v' ∧ ow v' ≤ st'.next)) → s.next ≤ st'.next → (∀ i, i + 1 ≠ ow v → i ≠ N + 5 → i < s.next → st'.get i = s.get i) → st'.get (N + 5) = some (pipeRow v' true true er.isSome er.isSome) →
      K (.tuple #[.int .i64 (min m.length (64 - l.length) : Nat), .int .i64 0]) st') :
    callK (callO T0 orc fns 100000 (n + 2)) 11 [.pointer (some ⟨N, 0, none⟩), .int .i64 1, u] s K := by
  have hlo := h.lo_
  have hlon := h.lon
  have hol := h.ol
  refine wPipe n h.str h.hnd (hnds_w N er) h.ew h.pp ?_ h.gl (hu.keep fun i hi => h.base i (by omega)) h.l64 (by omega) (by omega) (by omega) (by omega) (by omega) (by omega) (by omega) (by omega) (fun _ _ => h1) (fun _ => h2)
  cases er <;> simp

theorem PI.read {s0 s : St} {N lo e : Nat} {v sv gv : Value} {l sent got : List UInt8} (h : PI s0 s N lo (some e) v sv gv l sent got) (n : Nat) {x : Int} {K : Value → St → Prop} (hx : 1 ≤ x) (hx2 : x ≤ 100)
    (h1 : l = [] → K (.tuple #[.slice none 0 0, .bool false, .int .i64 5]) s)
    (h3 : ∀ u v' st', Gro st' u (l.take x.toNat) → Gro st' v' (l.drop x.toNat) → ow v' = ow v → (ow u = 0 ∨ (s.next + 1 ≤ ow u ∧ ow u ≤ st'.next)) → s.next ≤ st'.next → (∀ i, i ≠ N + 5 → i < s.next → st'.get i = s.get i) → st'.get (N + 5) = some (pipeRow v' true true true true) →
      K (.tuple #[u, .bool false, .int .i64 0]) st') :
    callK (callO T0 orc fns 100000 (n + 3)) 12 [.pointer (some ⟨N, 0, none⟩), .int .i64 2, .int .i64 x] s K := by
  have hlo := h.lo_
  have hlon := h.lon
  have hol := h.ol
  obtain ⟨e1, e2, e3⟩ := h.er_ e rfl
  exact rPipe n h.str h.hnd (hnds_r N e) e1 h.pp h.gl h.l64 hx (by omega) (by omega) (by omega) (by omega) (fun q _ => h1 q) (fun _ _ q => by simp at q) (fun _ => h3)

/-- the writer's row is written, and what it took is kept -/
theorem PI.wrote {s0 s s1 s2 : St} {N lo : Nat} {er : Option Nat} {v v' sv sv' gv : Value} {l sent got m : List UInt8} (h : PI s0 s N lo er v sv gv l sent got)
    (a1 : Gro s1 v' (l ++ m)) (a2 : ow v' = ow v ∨ (s.next + 1 ≤ ow v' ∧ ow v' ≤ s1.next)) (a3 : s.next ≤ s1.next) (a4 : ∀ i, i + 1 ≠ ow v → i ≠ N + 5 → i < s.next → s1.get i = s.get i) (a5 : s1.get (N + 5) = some (pipeRow v' true true er.isSome er.isSome))
    (b1 : Gro s2 sv' (sent ++ m)) (b2 : ow sv' = ow sv ∨ (ow sv' = s1.next + 1 ∧ s1.next + 1 ≤ s2.next)) (b3 : s1.next ≤ s2.next) (b4 : ∀ i, i + 1 ≠ ow sv → i < s1.next → s2.get i = s1.get i) (hl : (l ++ m).length ≤ 64) (hb : (sent ++ m).length ≤ 50000) :
    PI s0 s2 N lo er v' sv' gv (l ++ m) (sent ++ m) got := by
  have hlo := h.lo_
  have hlon := h.lon
  have h1 := h.ol
  have h2 := h.os
  have h3 := h.og
  have h4 := h.d1
  have h5 := h.d2
  have h6 := h.d3
  have old : ∀ i, i < s.next → i + 1 ≠ ow v → i + 1 ≠ ow sv → i ≠ N + 5 → s2.get i = s.get i := fun i i1 i2 i3 i4 => (b4 i i3 (by omega)).trans (a4 i i2 i4 i1)
  have small : ∀ i, i ≤ N + 6 → i ≠ N + 5 → s2.get i = s.get i := fun i i1 i2 => old i (by omega) (by omega) (by omega) i2
  refine {
    base := fun i hi => (small i (by omega) (by omega)).trans (h.base i hi)
    nN := h.nN
    n0 := h.n0
    mx := h.mx
    str := (small N (by omega) (by omega)).trans h.str
    asg := (small _ (by omega) (by omega)).trans h.asg
    pip := (small _ (by omega) (by omega)).trans h.pip
    hnd := (small _ (by omega) (by omega)).trans h.hnd
    pp := (b4 _ (by omega) (by omega)).trans a5
    ew := (small _ (by omega) (by omega)).trans h.ew
    er_ := fun e he => ?_
    lo_ := hlo
    lon := by omega
    gl := a1.keep fun i hi => b4 i (by omega) (by omega)
    gs := b1
    gg := h.gg.keep fun i hi => old i (by omega) (by omega) (by omega) (by omega)
    ol := by omega
    os := by omega
    og := by omega
    d1 := by omega
    d2 := by omega
    d3 := by omega
    all := by rw [h.all, List.append_assoc]
    l64 := hl
    big := hb }
  obtain ⟨e1, e2, e3⟩ := h.er_ e he
  exact ⟨(old e (by omega) (by omega) (by omega) (by omega)).trans e1, e2, e3⟩

/-- bytes are read, and kept -/
theorem PI.got_ {s0 s s1 s2 : St} {N lo e : Nat} {v v' sv gv gv' : Value} {l sent got : List UInt8} {k : Nat} (h : PI s0 s N lo (some e) v sv gv l sent got)
    (a1 : Gro s1 v' (l.drop k)) (a2 : ow v' = ow v) (a3 : s.next ≤ s1.next) (a4 : ∀ i, i ≠ N + 5 → i < s.next → s1.get i = s.get i) (a5 : s1.get (N + 5) = some (pipeRow v' true true true true))
    (b1 : Gro s2 gv' (got ++ l.take k)) (b2 : ow gv' = ow gv ∨ (ow gv' = s1.next + 1 ∧ s1.next + 1 ≤ s2.next)) (b3 : s1.next ≤ s2.next) (b4 : ∀ i, i + 1 ≠ ow gv → i < s1.next → s2.get i = s1.get i) :
    PI s0 s2 N lo (some e) v' sv gv' (l.drop k) sent (got ++ l.take k) := by
  have hlo := h.lo_
  have hlon := h.lon
  have h1 := h.ol
  have h2 := h.os
  have h3 := h.og
  have h4 := h.d1
  have h5 := h.d2
  have h6 := h.d3
  have old : ∀ i, i < s.next → i + 1 ≠ ow gv → i ≠ N + 5 → s2.get i = s.get i := fun i i1 i3 i4 => (b4 i i3 (by omega)).trans (a4 i i4 i1)
  have small : ∀ i, i ≤ N + 6 → i ≠ N + 5 → s2.get i = s.get i := fun i i1 i2 => old i (by omega) (by omega) i2
  have l64 := h.l64
  refine {
    base := fun i hi => (small i (by omega) (by omega)).trans (h.base i hi)
    nN := h.nN
    n0 := h.n0
    mx := h.mx
    str := (small N (by omega) (by omega)).trans h.str
    asg := (small _ (by omega) (by omega)).trans h.asg
    pip := (small _ (by omega) (by omega)).trans h.pip
    hnd := (small _ (by omega) (by omega)).trans h.hnd
    pp := (b4 _ (by omega) (by omega)).trans a5
    ew := (small _ (by omega) (by omega)).trans h.ew
    er_ := fun e he => ?_
    lo_ := hlo
    lon := by omega
    gl := a1.keep fun i hi => b4 i (by omega) (by omega)
    gs := h.gs.keep fun i hi => old i (by omega) (by omega) (by omega)
    gg := b1
    ol := by omega
    os := by omega
    og := by omega
    d1 := by omega
    d2 := by omega
    d3 := by omega
    all := by rw [h.all, List.append_assoc, List.take_append_drop]
    l64 := by simp only [List.length_drop]; omega
    big := h.big }
  obtain ⟨e1, e2, e3⟩ := h.er_ e he
  exact ⟨(old e (by omega) (by omega) (by omega)).trans e1, e2, e3⟩

/-- nothing of what is known has turned -/
theorem PI.same {s0 s s1 : St} {N lo : Nat} {er : Option Nat} {v sv gv : Value} {l sent got : List UInt8} (h : PI s0 s N lo er v sv gv l sent got) (a3 : s.next ≤ s1.next) (a4 : ∀ i, i < s.next → s1.get i = s.get i) : PI s0 s1 N lo er v sv gv l sent got := by
  have hlo := h.lo_
  have hlon := h.lon
  have h1 := h.ol
  have h2 := h.os
  have h3 := h.og
  refine {
    base := fun i hi => (a4 i (by omega)).trans (h.base i hi)
    nN := h.nN
    n0 := h.n0
    mx := h.mx
    str := (a4 N (by omega)).trans h.str
    asg := (a4 _ (by omega)).trans h.asg
    pip := (a4 _ (by omega)).trans h.pip
    hnd := (a4 _ (by omega)).trans h.hnd
    pp := (a4 _ (by omega)).trans h.pp
    ew := (a4 _ (by omega)).trans h.ew
    er_ := fun e he => ?_
    lo_ := hlo
    lon := by omega
    gl := h.gl.keep fun i hi => a4 i (by omega)
    gs := h.gs.keep fun i hi => a4 i (by omega)
    gg := h.gg.keep fun i hi => a4 i (by omega)
    ol := by omega
    os := by omega
    og := by omega
    d1 := h.d1
    d2 := h.d2
    d3 := h.d3
    all := h.all
    l64 := h.l64
    big := h.big }
  obtain ⟨e1, e2, e3⟩ := h.er_ e he
  exact ⟨(a4 e (by omega)).trans e1, e2, e3⟩
end Go.Proofs.YtocofoiijfofaaaDoor
