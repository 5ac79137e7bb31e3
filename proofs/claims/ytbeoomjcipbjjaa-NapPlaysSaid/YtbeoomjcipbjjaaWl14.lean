/- The comparison of two rows (Same), a new wheel as a whole, and the plain facts of the page's example. -/
import Derived.Test.YtbeoomjcipbjjaaWl13
namespace Go.Proofs.Ytbeoomjcipbjjaa
open Go.RowKit
set_option linter.unusedVariables false

theorem same_any (ws : List Int) (v v2 : Value) (w : World) (s1 : Sl 3 .i64 w v ws) (s2 : Sl 3 .i64 w v2 ws) (hl : ws.length ≤ 1000) : Calls Try.prog 19 #[v, v2] w fun e w' => e = .returned (.bool true) ∧ Gr w w' := by
  obtain ⟨a, cp, rfl, h1, h2, r1⟩ := s1.row
  obtain ⟨a2, cp2, rfl, h12, h22, r2⟩ := s2.row
  have HR := Lib.hid (And.intro r1 r2)
  clear s1 s2 r1 r2
  go_enter Try.func19, Try.ntmps19
  go_wp2
  go_loopw [5] (fun i wr => ∃ k : Nat, k ≤ ws.length ∧ i = .int .i64 k ∧ Gr w wr) (fun i _ => ws.length - (intOf i).toNat)
  case atStart => exact ⟨0, by omega, rfl, Gr.refl w⟩
  case round =>
    obtain ⟨k, hk, rfl, gr⟩ := hrel
    by_cases hlt : k < ws.length
    · rcases HR.out.1 with h0 | ⟨b, off, rfl, hc⟩
      · simp [h0] at hlt
      rcases HR.out.2 with h0 | ⟨b2, off2, rfl, hc2⟩
      · simp [h0] at hlt
      have c1 := gr.cell_some (hc k hlt)
      have c2 := gr.cell_some (hc2 k hlt)
      generalize ws.getD k 0 = z at c1 c2
      clear hc hc2
      have i1 : (0 : Int) ≤ (k : Int) := by omega
      have i2 : (k : Int) < (ws.length : Int) := by omega
      go_wp2_with fail
      go_quiet (fail)
      go_wp2
      go_roundw
      case rel => exact ⟨k + 1, by omega, by go_num, gr.drewN _⟩
      case measure => simp [intOf]; omega
    · obtain rfl : ws.length = k := by omega
      go_wp2
      go_ret
      exact ⟨rfl, gr⟩

theorem lit2 (w : World) (x y : Int) : Sl 3 .i64 (w.alloc (.cells #[.int .i64 x, .int .i64 y] 3)) (.slice (some ⟨w.heap.size, 0, none⟩) 2 2) [x, y] :=
  ⟨some ⟨w.heap.size, 0, none⟩, 2, rfl, by simp, by omega, .inr ⟨w.heap.size, 0, _, rfl, Blk.new w 3 #[.int .i64 x, .int .i64 y], by simp, fun i z hz => by
    match i with
    | 0 => simp at hz; subst hz; rfl
    | 1 => simp at hz; subst hz; rfl
    | i + 2 => simp at hz⟩⟩
/-- A new wheel as a whole. -/
theorem wnewA (n : Int) (w : World) (hn : 0 ≤ n ∧ n ≤ 18446744073709551615) : Calls Try.prog 11 #[.int .u64 n] w fun e w' => e = .returned (.pointer (some ⟨w.heap.size, 0, none⟩)) ∧ ∃ S, WA w' w.heap.size S (newS n) ∧ Gr w w' ∧ Foot w [] S :=
  (wnew n w).mono fun e w' ⟨he, m, g⟩ => ⟨he, _, ⟨⟨_, _, m, rfl, newS_li n⟩, newS_tg hn⟩, g, fun x hx => .inr (by
    rcases mem_wfp.1 hx with rfl | ⟨j, hj, hx⟩
    · exact Nat.le_refl _
    · simp [sb] at hx)⟩

def e3 : TS := setT (setT (setT (newS 0) 3 5) 1 5) 2 70
theorem e3_du (p : Nat) : e3.du p = if p = 2 then 70 else if p = 1 then 5 else if p = 3 then 5 else 0 := rfl
theorem e3_no (p : Nat) : e3.no p = if p = 2 then 3 else if p = 1 then 2 else if p = 3 then 1 else 0 := rfl
theorem e3_set1 : setE (newS 0) 3 5 = 0 := by decide +kernel
theorem e3_set2 : setE (setS (newS 0) 3 5) 1 5 = 0 := by decide +kernel
theorem e3_set3 : setE (setS (setS (newS 0) 3 5) 1 5) 2 70 = 0 := by decide +kernel
theorem e3_is : setS (setS (setS (newS 0) 3 5) 1 5) 2 70 = e3 := rfl
def e3At (k : Nat) : TS := if k ≤ 4 then advT e3 k else turnT (advT e3 4)
def e3L (k : Nat) : List Int := if k ≤ 4 then [] else [3, 1]
theorem e3_quiet (k : Nat) (hk : k ≤ 4) : Quiet e3 k := fun p hp => by
  rw [e3_no] at hp
  rw [e3_du, show e3.now = 0 from rfl]
  split
  · omega
  · split
    · omega
    · split
      · omega
      · rename_i h1 h2 h3; simp [h1, h2, h3] at hp
theorem e3_step (k : Nat) (hk : k < 5) (l : List Int) (t : TG e3) (h : IsDue (e3At k) l) : e3L k ++ l = e3L (k + 1) ∧ turnT (e3At k) = e3At (k + 1) := by
  by_cases h4 : k = 4
  · subst h4
    refine ⟨?_, rfl⟩
    have : IsDue (e3At 4) [3, 1] := by
      refine ⟨by simp only [List.pairwise_cons, List.Pairwise.nil, List.mem_singleton, forall_eq, List.not_mem_nil, false_implies, implies_true, and_true]; decide +kernel, fun x => ⟨fun hx => ?_, fun ⟨p, hx, _, hp, hd⟩ => ?_⟩⟩
      · simp at hx
        rcases hx with rfl | rfl
        · exact ⟨3, rfl, by omega, by decide +kernel, by decide +kernel⟩
        · exact ⟨1, rfl, by omega, by decide +kernel, by decide +kernel⟩
      · have hd' : e3.du p = 5 := hd
        rw [e3_du] at hd'
        subst hx
        split at hd'
        · omega
        · split at hd'
          · simp_all
          · split at hd'
            · simp_all
            · omega
    rw [h.uniq this]; rfl
  · have e : e3At k = advT e3 k := if_pos (by omega)
    have e' : e3At (k + 1) = advT e3 (k + 1 : Nat) := if_pos (by omega)
    have l0 : l = [] := by
      cases l with
      | nil => rfl
      | cons x r =>
        rw [e] at h
        obtain ⟨p, hp, hd⟩ := due_some h (by simp)
        have := e3_quiet (k + 1) (by omega) p hp
        have : e3.du p = e3.now + k + 1 := hd
        omega
    rw [e] at h
    refine ⟨by rw [l0]; simp [e3L, show k ≤ 4 by omega, show k + 1 ≤ 4 by omega], ?_⟩
    rw [e, e', (Quiet.step t (by show (0 : Int) ≤ 0 + (k : Int); omega) (e3_quiet k (by omega)) h l0).2]; rfl
theorem e3_all (l : List Int) (h : IsAll (e3At 5) l) : l = [2] ∧ nextT (e3At 5) l = 70 := by
  have : IsAll (e3At 5) [2] := by
    refine ⟨by simp, fun x => ⟨fun hx => ?_, fun ⟨p, hx, _, hp⟩ => ?_⟩⟩
    · simp at hx
      subst hx
      exact ⟨2, rfl, by omega, by decide +kernel⟩
    · have hp' : (if e3.du p = 5 then 0 else e3.no p) ≠ 0 := hp
      rw [e3_du, e3_no] at hp'
      subst hx
      by_cases h2 : p = 2
      · simp [h2]
      · by_cases h1 : p = 1
        · simp [h1] at hp'
        · by_cases h3 : p = 3
          · simp [h3] at hp'
          · simp [h1, h2, h3] at hp'
  obtain rfl := h.uniq this
  exact ⟨rfl, by decide +kernel⟩
end Go.Proofs.Ytbeoomjcipbjjaa
