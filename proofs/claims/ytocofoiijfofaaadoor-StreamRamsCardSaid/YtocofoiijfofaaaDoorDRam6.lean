/-
  StreamRams: Open and Close of the file x.
-/
import Derived.Test.YtocofoiijfofaaaDoorDRam5
set_option linter.unusedSimpArgs false
set_option linter.unusedVariables false
set_option maxRecDepth 10000
namespace Go.Proofs.YtocofoiijfofaaaDoor
open Go.Am
attribute [local irreducible] callO wopK ropK popK opK grpsE listE sx Runs

abbrev wrV (e : Nat) : Value := .iface 68 (.pointer (some ⟨e, 0, none⟩))
abbrev rdV (e : Nat) : Value := .iface 86 (.pointer (some ⟨e, 0, none⟩))

theorem RC.openW {s0 s : St} {N hc fc : Nat} {last mode : Int} {hs fs : List (Value × Value × Nat)} (h : RC s0 s N last hs hc fs fc) (n : Nat) {nm : ByteArray} {v : Value} {ok : Bool} {l l' : List UInt8} {K : Value → St → Prop}
    (hnm : cutP nm ++ sColon ++ cutQ nm = sRX) (hns : nm.size ≤ 5000) (g1 : given (cutP nm) = true) (g2 : full (cutP nm) (cutQ nm) = true)
    (hlk : ∀ K : Value → Prop, lookK (findV .str (.string sX) fs 0) (.slice none 0 0) true K = K (.tuple #[v, .bool ok])) (hv : Bys s v l) (hl : l.length ≤ 20000) (nv : ow v ≤ s.next)
    (hn : (hs.map (·.2.2)).Nodup) (hw : ∀ e ∈ hs, NoW s sX e) (hmode : (mode = 1 ∧ l' = []) ∨ (mode = 2 ∧ l' = l)) (hlen : hs.length < 20) (hl1 : 0 ≤ last) (hl2 : last ≤ 1000000) (hf : findV .int (.int .i64 (last + 1)) hs 0 = some none)
    (hK : ∀ e v' s', RC s0 s' N (last + 1) (hs ++ [(.int .i64 (last + 1), wrV e, hc)]) (hc + 1) fs fc → s'.get e = some (ramRow sX v') → Gro s' v' l' → s.next ≤ e → e < s'.next → (ow v' = 0 ∨ (s.next + 1 ≤ ow v' ∧ ow v' ≤ s'.next)) → ow v' ≠ e + 1 → (∀ i, i < s.next → i ≠ N → i ≠ N + 4 → s'.get i = s.get i) →
      K (.tuple #[.int .i64 (last + 1), .int .i64 0]) s') :
    callK (callO T0 orc fns 100000 (n + 4)) 10 [.pointer (some ⟨N, 0, none⟩), .string nm, .int .i64 mode] s K := by
  have hnx := h.nx
  refine oRam n h.str h.asg h.hnd h.max StrMap.nil hnm hns g1 g2 (by rcases hmode with ⟨h, _⟩ | ⟨h, _⟩ <;> omega) hlen hl1 hl2 hf (by omega) ?_
  refine openRamW (n + 1) (nm := sX) h.str h.fil hlk hv hl nv h.max (by decide) (by decide) (by decide) h.hnd hn hw (by omega) (by omega) hmode fun e v' s2 a1 a2 a3 a4 a5 a6 a7 => ?_
  refine ⟨_, rfl, a7 _ (by omega), a7 _ (by omega), ?_⟩
  refine hK e v' _ (h.opened a7 (by omega)) ?_ (a2.keep fun i hi => ?_) a3 a4 a5 a6 (fun i i1 i2 i3 => ?_)
  · rw [get_put_ne _ _ _ _ (by omega), get_put_ne _ _ _ _ (by omega)]; exact a1
  · rw [get_put_ne _ _ _ _ (by omega), get_put_ne _ _ _ _ (by omega)]
  · rw [get_put_ne _ _ _ _ (by omega), get_put_ne _ _ _ _ (by omega), a7 i i1]

theorem RC.openR {s0 s : St} {N hc fc j : Nat} {last : Int} {hs fs : List (Value × Value × Nat)} (h : RC s0 s N last hs hc fs fc) (n : Nat) {nm : ByteArray} {v : Value} {l : List UInt8} {K : Value → St → Prop}
    (hnm : cutP nm ++ sColon ++ cutQ nm = sRX) (hns : nm.size ≤ 5000) (g1 : given (cutP nm) = true) (g2 : full (cutP nm) (cutQ nm) = true)
    (hff : findV .str (.string sX) fs 0 = some (some (j, v))) (hv : Bys s v l) (hl : l.length ≤ 20000) (nv : ow v ≤ s.next)
    (hlen : hs.length < 20) (hl1 : 0 ≤ last) (hl2 : last ≤ 1000000) (hf : findV .int (.int .i64 (last + 1)) hs 0 = some none)
    (hK : ∀ e v' s', RC s0 s' N (last + 1) (hs ++ [(.int .i64 (last + 1), rdV e, hc)]) (hc + 1) fs fc → s'.get e = some (ramRow sX v') → Gro s' v' l → s.next ≤ e → e < s'.next → (ow v' = 0 ∨ (s.next + 1 ≤ ow v' ∧ ow v' ≤ s'.next)) → ow v' ≠ e + 1 → (∀ i, i < s.next → i ≠ N → i ≠ N + 4 → s'.get i = s.get i) →
      K (.tuple #[.int .i64 (last + 1), .int .i64 0]) s') :
    callK (callO T0 orc fns 100000 (n + 4)) 10 [.pointer (some ⟨N, 0, none⟩), .string nm, .int .i64 0] s K := by
  have hnx := h.nx
  refine oRam n h.str h.asg h.hnd h.max StrMap.nil hnm hns g1 g2 (.inl rfl) hlen hl1 hl2 hf (by omega) ?_
  refine openRamR (n + 1) (nm := sX) h.str h.fil hff hv hl nv h.max (by decide) (by decide) (by decide) fun e v' s2 a1 a2 a3 a4 a5 a6 a7 => ?_
  refine ⟨_, rfl, a7 _ (by omega), a7 _ (by omega), ?_⟩
  refine hK e v' _ (h.opened a7 (by omega)) ?_ (a2.keep fun i hi => ?_) a3 a4 a5 a6 (fun i i1 i2 i3 => ?_)
  · rw [get_put_ne _ _ _ _ (by omega), get_put_ne _ _ _ _ (by omega)]; exact a1
  · rw [get_put_ne _ _ _ _ (by omega), get_put_ne _ _ _ _ (by omega)]
  · rw [get_put_ne _ _ _ _ (by omega), get_put_ne _ _ _ _ (by omega), a7 i i1]

/-- a writer is closed -/
theorem RC.closeW {s0 s : St} {N hc fc j e : Nat} {last id : Int} {hs fs fs' : List (Value × Value × Nat)} {fc' : Nat} {v : Value} (h : RC s0 s N last hs hc fs fc) (n : Nat) {K : Value → St → Prop}
    (hf : findV .int (.int .i64 id) hs 0 = some (some (j, wrV e))) (he : s.get e = some (ramRow sX v)) (ne : N + 5 ≤ e)
    (hset : ∀ K : List (Value × Value × Nat) → Nat → Prop, setK (findV .str (.string sX) fs 0) (.string sX) v fs fc K = K fs' fc')
    (hK : ∀ s', RC s0 s' N last (hs.eraseIdx j) hc fs' fc' → s'.next = s.next → (∀ i, i ≠ N + 1 → i ≠ N + 4 → s'.get i = s.get i) → K (.int .i64 0) s') :
    callK (callO T0 orc fns 100000 (n + 2)) 13 [.pointer (some ⟨N, 0, none⟩), .int .i64 id] s K := by
  have hnx := h.nx
  have hn0 := h.n0
  refine kClose (n + 1) h.str h.hnd hf (fc := 121) rfl ?_
  refine ramKeep n (p := N) (f := N + 1) (q := N + 2) (a := N + 3) (h := N + 4) (e := e) (last := last) (nm := sX) (v := v) (fs := fs) (fc := fc) ?_ ?_ ?_ hset ?_
  · show St.get _ _ = _
    rw [get_put_ne _ _ _ _ (by omega)]; exact h.str
  · rw [get_put_ne _ _ _ _ (by omega)]; exact h.fil
  · rw [get_put_ne _ _ _ _ (by omega)]; exact he
  have old : ∀ i, i ≠ N + 1 → i ≠ N + 4 → ∀ o1 o2, ((s.put (N + 4) o1).put (N + 1) o2).get i = s.get i := fun i i1 i2 o1 o2 => by
    rw [get_put_ne _ _ _ _ (by omega), get_put_ne _ _ _ _ (by omega)]
  refine hK _ {
    base := fun i hi => (old i (by omega) (by omega) _ _).trans (h.base i hi)
    nN := h.nN
    n0 := h.n0
    mx := h.mx
    str := (old _ (by omega) (by omega) _ _).trans h.str
    asg := (old _ (by omega) (by omega) _ _).trans h.asg
    hnd := by rw [get_put_ne _ _ _ _ (by omega), get_put_same]
    fil := get_put_same _ _ _
    nx := h.nx } rfl (fun i i1 i2 => old i i1 i2 _ _)
end Go.Proofs.YtocofoiijfofaaaDoor
