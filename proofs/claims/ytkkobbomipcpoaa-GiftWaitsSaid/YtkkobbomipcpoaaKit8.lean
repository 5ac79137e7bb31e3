/- Arguments that are structs of slices of numbers. -/
import Derived.Test.YtkkobbomipcpoaaGiG
import Derived.Test.YtkkobbomipcpoaaProg
namespace Go.Proofs.Ytkkobbomipcpoaa
open Go.RowKit Go.ChangeShapes Go.WideShapes Go.Deep
theorem open_rowc {H : Type} {enc : TypeId × Value → H} {P : Program} {w : World} {t e : TypeId} {fuel : Nat} {cs : List Value} {x : DataW H × List MemPlace}
    (ht : P.underlying t = some (.slice e)) (he : P.underlying e = some (.int .i64)) (hc : P.cellsOf e = 1)
    (h : DataW.trod enc P w 0 (fun _ => true) true fuel t cs = some x) : ∃ v zs, cs = [v] ∧ Rn w v zs := by
  rcases open_ints ht he hc h with ⟨hcs, _⟩ | ⟨x, l, c, zs, hcs, _, hl, hm, hz, _, hcell, hwz⟩
  · exact ⟨_, [], hcs, none, 0, rfl, Nat.le_refl _, by omega, .inl rfl, fun _ => rfl⟩
  · have hz' : zs.length = c := by simpa using hz
    have hlen : (zs.take l).length = l := by rw [List.length_take]; omega
    refine ⟨_, zs.take l, hcs, some x, c, by rw [hlen], by omega, by unfold maxLen at hm; omega, ?_, by simp⟩
    by_cases h0 : l = 0
    · left; rw [h0]; simp
    · right
      obtain ⟨b, off, spot⟩ := x
      have hc0 := hcell 0 (by omega)
      have hspot : spot = none := by simpa [Addr.add] using World.cell?_spot hc0
      subst hspot
      refine ⟨b, off, rfl, fun i hi => ?_⟩
      have := hcell i (by omega)
      rw [hlen] at hi
      have e : (zs.take l).getD i 0 = zs.getD i 0 := by simp [List.getD_eq_getElem?_getD, hi]
      rw [e, ← this]
      by_cases hi0 : i = 0
      · subst hi0; simp [Addr.add]
      · simp [Addr.add, hi0]
theorem trod_field {H : Type} {enc : TypeId × Value → H} {P : Program} {w : World} {base : Nat} {spare : Nat → Bool} {held : Bool} {t : TypeId} {fuel : Nat} {cs : List Value} {x : DataW H × List MemPlace} {fs : Array Field}
    (hu : P.underlying t = some (.struct fs)) (h : DataW.trod enc P w base spare held fuel t cs = some x) (i : Nat) (f : Field) (hf : fs[i]? = some f) (hc : P.cellsOf f.type = 1) :
    ∃ n y, DataW.trod enc P w base spare held n f.type ((cs.drop f.offset).take 1) = some y := by
  obtain ⟨xs, n, _, _, hlen, hxl, hfl⟩ := DataW.trod_struct hu h
  have h1 := hfl i f hf
  have hil : i < fs.size := (Array.getElem?_eq_some_iff.1 hf).1
  have hx : xs[i]? = some xs[i] := List.getElem?_eq_getElem (by omega)
  rw [hx, hc] at h1
  exact ⟨n, _, h1⟩
set_option maxRecDepth 100000 in
set_option maxHeartbeats 400000 in
theorem open_lists {H : Type} {enc : TypeId × Value → H} {W : World} {r : Reach} {base : Nat} {v : Value} {d : DataW H} {p : List MemPlace} (hv : Value.okWide Try.prog W r base 24 v) (h : DataW.Trod enc Try.prog W 0 (fun _ => true) true 24 v d p) :
    ∃ vl vw vo L M O, v = .agg #[vl, vw, vo] ∧ Rn W vl L ∧ Rn W vw M ∧ Rn W vo O := by
  obtain ⟨cs, rfl, hsz⟩ := @okWide_struct Try.prog W r base 24 v _ Try.underlying24 hv
  obtain ⟨fu, hf⟩ := h
  have hn : cs.size = 3 := hsz.trans (by kernel_rfl)
  obtain ⟨n0, y0, f0⟩ := trod_field Try.underlying24 hf 0 _ rfl (by kernel_rfl)
  obtain ⟨n1, y1, f1⟩ := trod_field Try.underlying24 hf 1 _ rfl (by kernel_rfl)
  obtain ⟨n2, y2, f2⟩ := trod_field Try.underlying24 hf 2 _ rfl (by kernel_rfl)
  obtain ⟨vl, L, e0, r0⟩ := open_rowc Try.underlying22 Try.underlying3 (by kernel_rfl) f0
  obtain ⟨vw, M, e1, r1⟩ := open_rowc Try.underlying22 Try.underlying3 (by kernel_rfl) f1
  obtain ⟨vo, O, e2, r2⟩ := open_rowc Try.underlying22 Try.underlying3 (by kernel_rfl) f2
  refine ⟨vl, vw, vo, L, M, O, ?_, r0, r1, r2⟩
  clear hf hv hsz f0 f1 f2 r0 r1 r2
  obtain ⟨l⟩ := cs
  rcases l with _ | ⟨u0, _ | ⟨u1, _ | ⟨u2, _ | ⟨u3, l⟩⟩⟩⟩
  · simp at hn
  · simp at hn
  · simp at hn
  · simp [Value.cells] at e0 e1 e2
    rw [e0, e1, e2]
  · simp at hn
end Go.Proofs.Ytkkobbomipcpoaa
