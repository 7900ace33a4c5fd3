/-
  StreamRams: up to the loop.
-/
import Derived.Test.YtocofoiijfofaaaDoorDRam6
set_option linter.unusedSimpArgs false
set_option linter.unusedVariables false
set_option maxRecDepth 10000
namespace Go.Proofs.YtocofoiijfofaaaDoor
open Go.Am
attribute [local irreducible] callO wopK ropK popK opK grpsE listE sx Runs

theorem hasMax_of {s s' : St} (h : s'.get 0 = s.get 0) : hasMax s' = hasMax s := by unfold hasMax; rw [h]

theorem k6 (n : Nat) (st : St) (K : Value → St → Prop) (hm : hasMax st = true) : callK (callO T0 orc fns 100000 n) 6 [] st K = K (.bool true) st := by
  rw [callO_none (by rfl)]
  simp only [callK, orc, if_true, hm]
  rfl

theorem RC.made {st s1 : St} (hm : hasMax st = true) (h0 : 0 < st.next) (n1 : s1.next = st.next + 5) (f1 : ∀ i, i < st.next → s1.get i = st.get i) (p1 : s1.get st.next = some (.row [.map (some (st.next + 1)), .map (some (st.next + 2)), .map (some (st.next + 3)), .map (some (st.next + 4)), .int .i64 0] 0 false))
    (m1 : ∀ i, i < 4 → s1.get (st.next + 1 + i) = some (.map [] 0)) : RC st s1 st.next 0 [] 0 [] 0 := by
  have g1 := m1 0 (by decide)
  have g3 := m1 2 (by decide)
  have g4 := m1 3 (by decide)
  simp only [Nat.add_assoc, Nat.reduceAdd] at g1 g3 g4
  exact {
    base := f1
    nN := rfl
    n0 := h0
    mx := hm
    str := p1
    asg := g3
    hnd := g4
    fil := g1
    nx := by omega }

/-- the file is there, and nothing is open -/
structure RA (s0 s : St) (N : Nat) (u : Value) (lo : List UInt8) : Prop where
  rc : RC s0 s N 1 [] 1 [(.string sX, u, 0)] 1
  g : Gro s u lo
  o : ow u = 0 ∨ (N + 6 ≤ ow u ∧ ow u ≤ s.next)

/-- old is written, and the file is closed -/
theorem kOld (n : Nat) {s0 s : St} {N e : Nat} {v ov : Value} {lo : List UInt8} {K : Value → St → Prop} (h : RC s0 s N 1 [(.int .i64 1, wrV e, 0)] 1 [] 0) (he : s.get e = some (ramRow sX v)) (g : Gro s v []) (e1 : N + 5 ≤ e) (e2 : e < s.next) (o : ow v = 0 ∨ (N + 6 ≤ ow v ∧ ow v ≤ s.next)) (o2 : ow v ≠ e + 1)
    (hb : Bys s0 ov lo) (hbo : ow ov ≤ N) (hl : lo.length ≤ 5000)
    (hK : ∀ s' v', RC s0 s' N 1 [(.int .i64 1, wrV e, 0)] 1 [] 0 → s'.get e = some (ramRow sX v') → Gro s' v' lo → e < s'.next → (ow v' = 0 ∨ (N + 6 ≤ ow v' ∧ ow v' ≤ s'.next)) → K (.tuple #[.int .i64 lo.length, .int .i64 0]) s') :
    callK (callO T0 orc fns 100000 (n + 2)) 11 [.pointer (some ⟨N, 0, none⟩), .int .i64 1, ov] s K := by
  have hnx := h.nx
  have ho : ow v ≤ s.next := by omega
  refine wRam n h.str h.hnd rfl he g (hb.keep fun i hi => h.base i (by omega)) (by simp) (by omega) e2 ho o2 (fun c => ?_) (fun _ v' s' a1 a2 a3 a4 a5 => ?_)
  · simp only [List.length_nil] at c; omega
  · refine hK s' v' (h.keep (fun i hi => a4 i (by omega) (by omega) (by omega)) a3) a5 (by simpa using a1) (by omega) (by omega)

theorem kOldC (n : Nat) {s0 s : St} {N e : Nat} {v : Value} {lo : List UInt8} {K : Value → St → Prop} (h : RC s0 s N 1 [(.int .i64 1, wrV e, 0)] 1 [] 0) (he : s.get e = some (ramRow sX v)) (g : Gro s v lo) (e1 : N + 5 ≤ e) (o : ow v = 0 ∨ (N + 6 ≤ ow v ∧ ow v ≤ s.next))
    (hK : ∀ s', RA s0 s' N v lo → K (.int .i64 0) s') :
    callK (callO T0 orc fns 100000 (n + 2)) 13 [.pointer (some ⟨N, 0, none⟩), .int .i64 1] s K := by
  refine RC.closeW h n rfl he e1 (fun K => set_miss rfl K) fun s' a1 a2 a3 => hK s' ⟨a1, g.keep fun i hi => a3 i (by omega) (by omega), by omega⟩

/-- the file is read and written -/
structure RB (s0 s : St) (N e2 : Nat) (u v2 : Value) (lo : List UInt8) : Prop where
  rc : RC s0 s N 2 [(.int .i64 2, rdV e2, 1)] 2 [(.string sX, u, 0)] 1
  r2 : s.get e2 = some (ramRow sX v2)
  b2 : N + 5 ≤ e2
  c2 : e2 < s.next
  g : Gro s u lo
  g2 : Gro s v2 lo
  o : ow u ≤ s.next
  o2 : ow v2 = 0 ∨ (N + 6 ≤ ow v2 ∧ ow v2 ≤ s.next)
  x1 : ow v2 ≠ e2 + 1

theorem kOpen2 (n : Nat) {s0 s : St} {N : Nat} {u : Value} {lo : List UInt8} {K : Value → St → Prop} (h : RA s0 s N u lo) (hl : lo.length ≤ 5000) (hK : ∀ s' e2 v2, RB s0 s' N e2 u v2 lo → K (.tuple #[.int .i64 2, .int .i64 0]) s') :
    callK (callO T0 orc fns 100000 (n + 4)) 10 [.pointer (some ⟨N, 0, none⟩), .string sRX, .int .i64 0] s K := by
  have hnx := h.rc.nx
  have ho := h.o
  have h5 : sRX.size ≤ 5000 := by decide
  have hu : ow u ≤ s.next := by omega
  refine RC.openR h.rc n (j := 0) (v := u) (by decide) h5 (by decide) (by decide) rfl h.g.bys (by omega) hu (Nat.zero_lt_succ _) (by decide) (by decide) rfl fun e v' s' a1 a2 a3 a4 a5 a6 a7 a8 => ?_
  exact hK s' e v' {
    rc := a1
    r2 := a2
    b2 := by omega
    c2 := a5
    g := h.g.keep fun i hi => a8 i (by omega) (by omega) (by omega)
    g2 := a3
    o := by omega
    o2 := by omega
    x1 := a7 }

theorem kOpen3 (n : Nat) {s0 s : St} {N e2 : Nat} {u v2 : Value} {lo l' : List UInt8} {mode : Int} {K : Value → St → Prop} (h : RB s0 s N e2 u v2 lo) (hl : lo.length ≤ 5000) (hmode : (mode = 1 ∧ l' = []) ∨ (mode = 2 ∧ l' = lo))
    (hK : ∀ s' e3 v3, (∀ wv s6, Gro s6 wv l' → (ow wv = 0 ∨ (ow wv = s'.next + 1 ∧ s'.next + 1 ≤ s6.next)) → s'.next ≤ s6.next → (∀ i, i < s'.next → s6.get i = s'.get i) → RL s0 s6 N e2 e3 v2 v3 wv lo l' u) → (∀ i, i < N → s'.get i = s0.get i) → K (.tuple #[.int .i64 3, .int .i64 0]) s') :
    callK (callO T0 orc fns 100000 (n + 4)) 10 [.pointer (some ⟨N, 0, none⟩), .string sX, .int .i64 mode] s K := by
  have hnx := h.rc.nx
  have ho := h.o
  have ho2 := h.o2
  have hb2 := h.b2
  have hc2 := h.c2
  have hx1 := h.x1
  have h5 : sX.size ≤ 5000 := by decide
  refine RC.openW h.rc n (ok := true) (v := u) (by decide) h5 (by decide) (by decide) (fun K => lookK_hit (i := 0) (v := u) rfl _ K) h.g.bys (by omega) ho (List.nodup_cons.2 ⟨List.not_mem_nil, List.nodup_nil⟩) (fun e he => ?_) hmode (by show 1 < 20; decide) (by decide) (by decide) rfl fun e v' s' a1 a2 a3 a4 a5 a6 a7 a8 => ?_
  · have : e = (.int .i64 2, rdV e2, 1) := by simpa using he
    subst this
    exact .inl ⟨_, _, rfl, by decide⟩
  · refine hK s' e v' (fun wv s6 b1 b2 b3 b4 => ?_) a1.base
    have hc := a1.nx
    exact {
      rc := a1.keep (fun i hi => b4 i (by omega)) b3
      r2 := (b4 e2 (by omega)).trans ((a8 e2 (by omega) (by omega) (by omega)).trans h.r2)
      r3 := (b4 e (by omega)).trans a2
      b2 := hb2
      b3 := by omega
      c2 := by omega
      c3 := by omega
      ne := by omega
      g2 := h.g2.keep fun i hi => (b4 i (by omega)).trans (a8 i (by omega) (by omega) (by omega))
      g3 := a3.keep fun i hi => b4 i (by omega)
      gw := b1
      o2 := by omega
      o3 := by omega
      o4 := by omega
      x1 := hx1
      x2 := by omega
      x3 := by omega
      x4 := a7
      x5 := by omega
      x6 := by omega
      d1 := by omega
      d2 := by omega
      d3 := by omega }
end Go.Proofs.YtocofoiijfofaaaDoor
