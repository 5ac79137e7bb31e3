/- Chapter 25 (gift): the document's graph, and what its small functions return. -/
import Derived.Test.YtkkobbomipcpoaaGiA
namespace Go.Proofs.Ytkkobbomipcpoaa
open Go.RowKit
set_option linter.unusedVariables false
set_option maxHeartbeats 2000000
theorem Rd.hd {w : World} {v : Value} {zs : List Int} (h : Rd w v zs) : ∃ a cp, v = .slice a zs.length cp ∧ zs.length ≤ cp ∧ cp ≤ 9223372036854775807 := by
  obtain ⟨a, cp, h1, h2, h3, _⟩ := h
  exact ⟨a, cp, h1, h2, h3⟩
theorem Rd.at {w : World} {v : Value} {zs : List Int} (h : Rd w v zs) {i : Nat} (hi : i < zs.length) : ∃ b off cp, v = .slice (some ⟨b, off, none⟩) zs.length cp ∧ zs.length ≤ cp ∧ cp ≤ 9223372036854775807 ∧ w.cell? ⟨b, off + i, none⟩ = some (.int .i64 (zs.getD i 0)) := by
  obtain ⟨a, cp, h1, h2, h3, h4⟩ := h
  obtain ⟨b, off, rfl, c⟩ := h4.cell hi
  exact ⟨b, off, cp, h1, h2, h3, c⟩
theorem Rd.at' {w : World} {v : Value} {n : Nat} {f : Nat → Int} (h : Rd w v (lst n f)) {i : Nat} (hi : i < n) : ∃ b off cp, v = .slice (some ⟨b, off, none⟩) n cp ∧ n ≤ cp ∧ cp ≤ 9223372036854775807 ∧ w.cell? ⟨b, off + i, none⟩ = some (.int .i64 (f i)) := by
  obtain ⟨b, off, cp, h1, h2, h3, h4⟩ := h.at (i := i) (by rw [lst_length]; exact hi)
  rw [lst_length] at h1 h2
  rw [lst_getD _ _ _ hi] at h4
  exact ⟨b, off, cp, h1, h2, h3, h4⟩
theorem Rd.hd' {w : World} {v : Value} {n : Nat} {f : Nat → Int} (h : Rd w v (lst n f)) : ∃ a cp, v = .slice a n cp ∧ n ≤ cp ∧ cp ≤ 9223372036854775807 := by
  obtain ⟨a, cp, h1, h2, h3⟩ := h.hd
  rw [lst_length] at h1 h2
  exact ⟨a, cp, h1, h2, h3⟩
theorem rat (zs : List Int) (i most : Nat) (v : Value) (w : World) (h : Rd w v zs) (hi : i < 64) : Calls Try.prog 110 #[v, .int .i64 i, .int .i64 most] w fun e w' => e = .returned (.int .i64 (atI zs i most)) ∧ w = w' := by
  by_cases hlt : i < zs.length
  · obtain ⟨b, off, cp, rfl, h1, h2, c⟩ := h.at hlt
    have e0 : atI zs i most = if zs.getD i 0 < 0 ∨ (most : Int) ≤ zs.getD i 0 then -1 else zs.getD i 0 := by
      unfold atI
      have : ¬ zs.length ≤ i := by omega
      simp only [this, false_or]
    rw [e0]
    generalize zs.getD i 0 = x at *
    have i1 : (0 : Int) ≤ (i : Int) := by omega
    have i2 : (i : Int) < (zs.length : Int) := by omega
    have t0 : decide (zs.length ≤ i) = false := by simpa using hlt
    clear e0 h
    by_cases hx : x < 0
    · rw [if_pos (.inl hx)]
      have t1 : decide (x < 0) = true := by simpa using hx
      go_enter Try.func110, Try.ntmps110
      go_wp2_with fail
      go_ret
      exact ⟨rfl, rfl⟩
    · have t1 : decide (x < 0) = false := by simpa using hx
      by_cases hm : (most : Int) ≤ x
      · rw [if_pos (.inr hm)]
        have t2 : decide ((most : Int) ≤ x) = true := by simpa using hm
        go_enter Try.func110, Try.ntmps110
        go_wp2_with fail
        go_ret
        exact ⟨rfl, rfl⟩
      · rw [if_neg (by omega)]
        have t2 : decide ((most : Int) ≤ x) = false := by simpa using hm
        go_enter Try.func110, Try.ntmps110
        go_wp2_with fail
        go_ret
        exact ⟨rfl, rfl⟩
  · obtain ⟨a, cp, rfl, h1, h2⟩ := h.hd
    have t0 : decide (zs.length ≤ i) = true := by simp; omega
    rw [show atI zs i most = -1 by unfold atI; rw [if_pos (.inl (by omega))]]
    go_enter Try.func110, Try.ntmps110
    go_wp2_with fail
    go_ret
    exact ⟨rfl, rfl⟩
/-- The document's graph, as it is built: three slices in block A. -/
structure CL (w : World) (B A : Nat) (v0 v1 v2 : Value) (z0 z1 z2 : List Int) : Prop where
  hdr : Blk w A 26 #[v0, v1, v2]
  s0 : Sl 3 .i64 w v0 z0
  s1 : Sl 3 .i64 w v1 z1
  s2 : Sl 3 .i64 w v2 z2
  d01 : Disj (sb v0) (sb v1)
  d02 : Disj (sb v0) (sb v2)
  d12 : Disj (sb v1) (sb v2)
  b : ∀ x ∈ A :: (sb v0 ++ (sb v1 ++ sb v2)), B ≤ x
section
variable {w w5 : World} {B A : Nat} {v0 v1 v2 v' : Value} {z0 z1 z2 z' : List Int} (l : CL w B A v0 v1 v2 z0 z1 z2) (hB : B ≤ w.heap.size)
include l
theorem CL.gr {w' : World} (k : Gr w w') : CL w' B A v0 v1 v2 z0 z1 z2 := ⟨l.hdr.gr k, l.s0.gr k, l.s1.gr k, l.s2.gr k, l.d01, l.d02, l.d12, l.b⟩
include hB
theorem CL.app0 (hv : Sl 3 .i64 w5 v' z') (ch : Ch (sb v0) w w5) (hf : Foot w (sb v0) (sb v')) : CL (w5.setCell ⟨A, 0, none⟩ v') B A v' v1 v2 z' z1 z2 ∧ Ch (A :: sb v0) w (w5.setCell ⟨A, 0, none⟩ v') := by
  have h5 := l.hdr.ch ch (l.s0.ne l.hdr (by decide))
  have k : Ch [A] w5 (w5.setCell ⟨A, 0, none⟩ v') := (Ch.refl _ _).st (by simp) _
  have n : ∀ {u : Value} {zs : List Int}, Sl 3 .i64 w5 u zs → Disj (sb u) [A] := fun hs x hx hm => by simp at hm; subst hm; exact hs.ne h5 (by decide) hx
  have s1 := l.s1.ch ch (fun x hx hm => l.d01 x hm hx)
  have s2 := l.s2.ch ch (fun x hx hm => l.d02 x hm hx)
  refine ⟨⟨h5.st 0 v', hv.ch k (n hv), s1.ch k (n s1), s2.ch k (n s2), l.d01.foot l.s1.inn hf, l.d02.foot l.s2.inn hf, l.d12, fun x hx => ?_⟩, (ch.wide (by simp +contextual)).st (p := ⟨A, 0, none⟩) (.inl (by simp)) _⟩
  simp only [List.mem_cons, List.mem_append] at hx
  rcases hx with rfl | hx | hx | hx
  · exact l.b _ (by simp)
  · rcases hf x hx with h | h
    · exact l.b x (by simp [h])
    · omega
  · exact l.b x (by simp [hx])
  · exact l.b x (by simp [hx])
theorem CL.app1 (hv : Sl 3 .i64 w5 v' z') (ch : Ch (sb v1) w w5) (hf : Foot w (sb v1) (sb v')) : CL (w5.setCell ⟨A, 1, none⟩ v') B A v0 v' v2 z0 z' z2 ∧ Ch (A :: sb v1) w (w5.setCell ⟨A, 1, none⟩ v') := by
  have h5 := l.hdr.ch ch (l.s1.ne l.hdr (by decide))
  have k : Ch [A] w5 (w5.setCell ⟨A, 1, none⟩ v') := (Ch.refl _ _).st (by simp) _
  have n : ∀ {u : Value} {zs : List Int}, Sl 3 .i64 w5 u zs → Disj (sb u) [A] := fun hs x hx hm => by simp at hm; subst hm; exact hs.ne h5 (by decide) hx
  have s0 := l.s0.ch ch l.d01
  have s2 := l.s2.ch ch (fun x hx hm => l.d12 x hm hx)
  refine ⟨⟨h5.st 1 v', s0.ch k (n s0), hv.ch k (n hv), s2.ch k (n s2), (l.d01.symm.foot l.s0.inn hf).symm, l.d02, l.d12.foot l.s2.inn hf, fun x hx => ?_⟩, (ch.wide (by simp +contextual)).st (p := ⟨A, 1, none⟩) (.inl (by simp)) _⟩
  simp only [List.mem_cons, List.mem_append] at hx
  rcases hx with rfl | hx | hx | hx
  · exact l.b _ (by simp)
  · exact l.b x (by simp [hx])
  · rcases hf x hx with h | h
    · exact l.b x (by simp [h])
    · omega
  · exact l.b x (by simp [hx])
theorem CL.app2 (hv : Sl 3 .i64 w5 v' z') (ch : Ch (sb v2) w w5) (hf : Foot w (sb v2) (sb v')) : CL (w5.setCell ⟨A, 2, none⟩ v') B A v0 v1 v' z0 z1 z' ∧ Ch (A :: sb v2) w (w5.setCell ⟨A, 2, none⟩ v') := by
  have h5 := l.hdr.ch ch (l.s2.ne l.hdr (by decide))
  have k : Ch [A] w5 (w5.setCell ⟨A, 2, none⟩ v') := (Ch.refl _ _).st (by simp) _
  have n : ∀ {u : Value} {zs : List Int}, Sl 3 .i64 w5 u zs → Disj (sb u) [A] := fun hs x hx hm => by simp at hm; subst hm; exact hs.ne h5 (by decide) hx
  have s0 := l.s0.ch ch l.d02
  have s1 := l.s1.ch ch l.d12
  refine ⟨⟨h5.st 2 v', s0.ch k (n s0), s1.ch k (n s1), hv.ch k (n hv), l.d01, (l.d02.symm.foot l.s0.inn hf).symm, (l.d12.symm.foot l.s1.inn hf).symm, fun x hx => ?_⟩, (ch.wide (by simp +contextual)).st (p := ⟨A, 2, none⟩) (.inl (by simp)) _⟩
  simp only [List.mem_cons, List.mem_append] at hx
  rcases hx with rfl | hx | hx | hx
  · exact l.b _ (by simp)
  · exact l.b x (by simp [hx])
  · exact l.b x (by simp [hx])
  · rcases hf x hx with h | h
    · exact l.b x (by simp [h])
    · omega
end
/-- The document's graph. -/
def RV (w : World) (rv : Value) (s : GS) : Prop := ∃ vl vw vo, rv = .agg #[vl, vw, vo] ∧ Rd w vl (lst s.n s.lev) ∧ Rd w vw (lst s.n s.wt) ∧ Rd w vo (lst s.m s.ow)
theorem RV.gr {w w' : World} {rv : Value} {s : GS} (h : RV w rv s) (g : Gr w w') : RV w' rv s := by
  obtain ⟨vl, vw, vo, h1, h2, h3, h4⟩ := h
  exact ⟨vl, vw, vo, h1, h2.gr g, h3.gr g, h4.gr g⟩
end Go.Proofs.Ytkkobbomipcpoaa
