/-
  StreamRams: what holds between the calls.
-/
import Derived.Test.YtocofoiijfofaaaDoorDRam4
set_option linter.unusedSimpArgs false
set_option linter.unusedVariables false
set_option maxRecDepth 10000
namespace Go.Proofs.YtocofoiijfofaaaDoor
open Go.Am
attribute [local irreducible] callO wopK ropK popK opK grpsE listE sx Runs

/-- the streams' own blocks -/
structure RC (s0 s : St) (N : Nat) (last : Int) (hs : List (Value × Value × Nat)) (hc : Nat) (fs : List (Value × Value × Nat)) (fc : Nat) : Prop where
  base : ∀ i, i < N → s.get i = s0.get i
  nN : N = s0.next
  n0 : 0 < N
  mx : hasMax s0 = true
  str : StrAt s N (N + 1) (N + 2) (N + 3) (N + 4) last
  asg : s.get (N + 3) = some (.map [] 0)
  hnd : s.get (N + 4) = some (.map hs hc)
  fil : s.get (N + 1) = some (.map fs fc)
  nx : N + 5 ≤ s.next

theorem RC.keep {s0 s s' : St} {N hc fc : Nat} {last : Int} {hs fs : List (Value × Value × Nat)} (h : RC s0 s N last hs hc fs fc) (hf : ∀ i, i < N + 5 → s'.get i = s.get i) (hn : s.next ≤ s'.next) : RC s0 s' N last hs hc fs fc where
  base := fun i hi => (hf i (by omega)).trans (h.base i hi)
  nN := h.nN
  n0 := h.n0
  mx := h.mx
  str := (hf N (by omega)).trans h.str
  asg := (hf _ (by omega)).trans h.asg
  hnd := (hf _ (by omega)).trans h.hnd
  fil := (hf _ (by omega)).trans h.fil
  nx := by have := h.nx; omega

theorem RC.max {s0 s : St} {N hc fc : Nat} {last : Int} {hs fs : List (Value × Value × Nat)} (h : RC s0 s N last hs hc fs fc) : hasMax s = true := by
  have : s.get 0 = s0.get 0 := h.base 0 h.n0
  unfold hasMax
  rw [this]
  exact h.mx

theorem RC.opened {s0 s s' : St} {N hc fc : Nat} {last : Int} {hs fs : List (Value × Value × Nat)} {x : Value} (h : RC s0 s N last hs hc fs fc) (hf : ∀ i, i < s.next → s'.get i = s.get i) (hn : s.next ≤ s'.next) :
    RC s0 ((s'.put N (some (.row [.map (some (N + 1)), .map (some (N + 2)), .map (some (N + 3)), .map (some (N + 4)), .int .i64 (last + 1)] 0 false))).put (N + 4) (some (.map (hs ++ [(.int .i64 (last + 1), x, hc)]) (hc + 1)))) N (last + 1) (hs ++ [(.int .i64 (last + 1), x, hc)]) (hc + 1) fs fc := by
  have hnx := h.nx
  have old : ∀ i, i < s.next → i ≠ N → i ≠ N + 4 → ∀ o1 o2, ((s'.put N o1).put (N + 4) o2).get i = s.get i := fun i i1 i2 i3 o1 o2 => by
    rw [get_put_ne _ _ _ _ (by omega), get_put_ne _ _ _ _ (by omega), hf i i1]
  exact {
    base := fun i hi => (old i (by omega) (by omega) (by omega) _ _).trans (h.base i hi)
    nN := h.nN
    n0 := h.n0
    mx := h.mx
    str := by show St.get _ _ = _; rw [get_put_ne _ _ _ _ (by omega), get_put_same]
    asg := (old _ (by omega) (by omega) (by omega) _ _).trans h.asg
    hnd := get_put_same _ _ _
    fil := (old _ (by omega) (by omega) (by omega) _ _).trans h.fil
    nx := by show N + 5 ≤ s'.next; omega }

/-- while the file is written -/
structure RL (s0 s : St) (N e2 e3 : Nat) (v2 v3 wv : Value) (lo cur : List UInt8) (u : Value) : Prop where
  rc : RC s0 s N 3 [(.int .i64 2, .iface 86 (.pointer (some ⟨e2, 0, none⟩)), 1), (.int .i64 3, .iface 68 (.pointer (some ⟨e3, 0, none⟩)), 2)] 3 [(.string sX, u, 0)] 1
  r2 : s.get e2 = some (ramRow sX v2)
  r3 : s.get e3 = some (ramRow sX v3)
  b2 : N + 5 ≤ e2
  b3 : N + 5 ≤ e3
  c2 : e2 < s.next
  c3 : e3 < s.next
  ne : e2 ≠ e3
  g2 : Gro s v2 lo
  g3 : Gro s v3 cur
  gw : Gro s wv cur
  o2 : ow v2 = 0 ∨ (N + 6 ≤ ow v2 ∧ ow v2 ≤ s.next)
  o3 : ow v3 = 0 ∨ (N + 6 ≤ ow v3 ∧ ow v3 ≤ s.next)
  o4 : ow wv = 0 ∨ (N + 6 ≤ ow wv ∧ ow wv ≤ s.next)
  x1 : ow v2 ≠ e2 + 1
  x2 : ow v2 ≠ e3 + 1
  x3 : ow v3 ≠ e2 + 1
  x4 : ow v3 ≠ e3 + 1
  x5 : ow wv ≠ e2 + 1
  x6 : ow wv ≠ e3 + 1
  d1 : ow v2 = ow v3 → ow v2 = 0
  d2 : ow v2 = ow wv → ow v2 = 0
  d3 : ow v3 = ow wv → ow v3 = 0

set_option maxHeartbeats 8000000 in
theorem RL.step {s0 s s1 s2 : St} {N e2 e3 : Nat} {v2 v3 v3' wv wv' u : Value} {lo cur m : List UInt8} (h : RL s0 s N e2 e3 v2 v3 wv lo cur u)
    (a1 : Gro s1 v3' (cur ++ m)) (a2 : ow v3' = ow v3 ∨ (s.next + 1 ≤ ow v3' ∧ ow v3' ≤ s1.next)) (a3 : s.next ≤ s1.next) (a4 : ∀ i, i + 1 ≠ ow v3 → i ≠ e3 → i < s.next → s1.get i = s.get i) (a5 : s1.get e3 = some (ramRow sX v3'))
    (b1 : Gro s2 wv' (cur ++ m)) (b2 : ow wv' = ow wv ∨ (ow wv' = s1.next + 1 ∧ s1.next + 1 ≤ s2.next)) (b3 : s1.next ≤ s2.next) (b4 : ∀ i, i + 1 ≠ ow wv → i < s1.next → s2.get i = s1.get i) : RL s0 s2 N e2 e3 v2 v3' wv' lo (cur ++ m) u := by
  have hnx := h.rc.nx
  have h1 := h.o2
  have h2 := h.o3
  have h3 := h.o4
  have h4 := h.b2
  have h5 := h.b3
  have h6 := h.c2
  have h7 := h.c3
  have h8 := h.ne
  have y1 := h.x1
  have y2 := h.x2
  have y3 := h.x3
  have y4 := h.x4
  have y5 := h.x5
  have y6 := h.x6
  have z1 := h.d1
  have z2 := h.d2
  have z3 := h.d3
  have old : ∀ i, i < s.next → i + 1 ≠ ow v3 → i + 1 ≠ ow wv → i ≠ e3 → s2.get i = s.get i := fun i i1 i2 i3 i4 => (b4 i i3 (by omega)).trans (a4 i i2 i4 i1)
  exact {
    rc := h.rc.keep (fun i hi => old i (by omega) (by omega) (by omega) (by omega)) (by omega)
    r2 := (old e2 (by omega) (by omega) (by omega) (by omega)).trans h.r2
    r3 := (b4 e3 (by omega) (by omega)).trans a5
    b2 := h4
    b3 := h5
    c2 := by omega
    c3 := by omega
    ne := h8
    g2 := h.g2.keep fun i hi => old i (by omega) (by omega) (by omega) (by omega)
    g3 := a1.keep fun i hi => b4 i (by omega) (by omega)
    gw := b1
    o2 := by omega
    o3 := by omega
    o4 := by omega
    x1 := y1
    x2 := y2
    x3 := by omega
    x4 := by omega
    x5 := by omega
    x6 := by omega
    d1 := by omega
    d2 := by omega
    d3 := by omega }
end Go.Proofs.YtocofoiijfofaaaDoor
