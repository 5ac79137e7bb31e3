/- A call of both wheels (does) of chapter 19. -/
import Derived.Test.YtbeoomjcipbjjaaWl21
namespace Go.Proofs.Ytbeoomjcipbjjaa
open Go.RowKit
set_option linter.unusedVariables false

theorem WA.ned {w : World} {g : Nat} {S : List Nat} {s : TS} (h : WA w g S s) {r : Nat} {s' : TS} (d : DW w r s') : r ∉ S := fun hm => by
  obtain ⟨L, V, m, rfl, _⟩ := h.ex
  rcases mem_wfp.1 hm with rfl | ⟨j, hj, hx⟩
  · have := m.hdr; have h2 := d.hdr; unfold Arr Blk at this h2; rw [this] at h2; simp at h2
  · exact (m.sl j hj).ne d.hdr (by decide) hx
theorem Sl.ned {w : World} {v : Value} {l : List Int} (h : Sl 3 .i64 w v l) {r : Nat} {s' : TS} (d : DW w r s') : r ∉ sb v := h.ne d.hdr (by decide)
/-- The number of ticks that a Skip is told. -/
def nnS (n : Int) : Int := if 30000 < n then n % 30000 else n
/-- The time that a Set is told. -/
def atS (s : TS) (n : Int) (raw : Bool) : Int := if raw = true then n else (s.now + n) % 18446744073709551616
/-- What a call does. -/
def StepR (s : TS) (k p n : Int) (raw : Bool) (s' : TS) : Prop :=
  (k % 6 = 3 ∧ s' = canS s p) ∨ (k % 6 = 4 ∧ s.now = 18446744073709551615 ∧ s' = s) ∨ (k % 6 = 4 ∧ s.now < 18446744073709551615 ∧ s' = turnT s) ∨
  (k % 6 = 5 ∧ ∃ l x, SkipEnd s (nnS n) l x s') ∨ (k % 6 ≠ 3 ∧ k % 6 ≠ 4 ∧ k % 6 ≠ 5 ∧ s' = setS s p (atS s n raw))
theorem StepR.uniq {s : TS} {k p n : Int} {raw : Bool} {s1 s2 : TS} (h : StepR s k p n raw s1) (h' : StepR s k p n raw s2) : s1 = s2 := by
  rcases h with ⟨a, rfl⟩ | ⟨a, b, rfl⟩ | ⟨a, b, rfl⟩ | ⟨a, l, x, b⟩ | ⟨a1, a2, a3, rfl⟩ <;> rcases h' with ⟨c, rfl⟩ | ⟨c, d, rfl⟩ | ⟨c, d, rfl⟩ | ⟨c, l', x', d⟩ | ⟨c1, c2, c3, rfl⟩ <;> first | rfl | omega | exact (b.uniq d).2.2
theorem can_last (s : TS) (p : Int) : (canS s p).last = s.last := by unfold canS; split <;> rfl
theorem set_last (s : TS) (p a : Int) : (setS s p a).last ≤ s.last + 1 := by
  unfold setS; split
  · exact Int.le_refl _
  · omega
theorem skip_last {s : TS} {n : Int} {l : List Int} {x : Int} {s' : TS} (h : SkipEnd s n l x s') : s'.last = s.last := by
  rcases h with ⟨k, _, _, _, _, _, _, _, rfl⟩ | ⟨_, _, _, _, _, _, rfl⟩ <;> rfl
theorem StepR.last {s : TS} {k p n : Int} {raw : Bool} {s' : TS} (h : StepR s k p n raw s') : s'.last ≤ s.last + 1 := by
  rcases h with ⟨_, rfl⟩ | ⟨_, _, rfl⟩ | ⟨_, _, rfl⟩ | ⟨_, l, x, b⟩ | ⟨_, _, _, rfl⟩
  · rw [can_last]; omega
  · omega
  · show s.last ≤ _; omega
  · rw [skip_last b]; omega
  · exact set_last _ _ _
theorem skip_len {s : TS} {n : Int} {l : List Int} {x : Int} {s' : TS} (h : SkipEnd s n l x s') : l.length ≤ 64 := by
  rcases h with ⟨k, _, _, _, _, h, _, _, rfl⟩ | ⟨_, _, _, _, _, rfl, rfl⟩
  · exact h.len
  · simp
theorem nnS_b {n : Int} (hn : 0 ≤ n ∧ n ≤ 18446744073709551615) : 0 ≤ nnS n ∧ nnS n ≤ 18446744073709551615 := by unfold nnS; split <;> omega
theorem atS_b {s : TS} {n : Int} {raw : Bool} (hn : 0 ≤ n ∧ n ≤ 18446744073709551615) : 0 ≤ atS s n raw ∧ atS s n raw ≤ 18446744073709551615 := by unfold atS; split <;> omega
def DoesW (g : Nat) (S : List Nat) (r : Nat) (s : TS) (k p n : Int) (raw : Bool) (w : World) (e : Ending) (w' : World) : Prop :=
  e = .returned (.bool true) ∧ ∃ s' S', StepR s k p n raw s' ∧ WA w' g S' s' ∧ DW w' r s' ∧ Ch (r :: S) w w' ∧ Foot w S S'
theorem doesW_mk {g : Nat} {S S' : List Nat} {r : Nat} {s s' : TS} {k p n : Int} {raw : Bool} {w W w1 w2 w3 : World} (hW : Gr w W) (wa : WA W g S s) (d : DW W r s) (hs : StepR s k p n raw s')
    (k1 : Ch S W w1) (wa1 : WA w1 g S' s') (f1 : Foot W S S') (k2 : Ch [r] w1 w2) (d2 : DW w2 r s') (g3 : Gr w2 w3) : DoesW g S r s k p n raw w (.returned (.bool true)) w3 := by
  have hr : r ∉ S' := wa1.ned (d.ch k1 (wa.ned d))
  refine ⟨rfl, s', S', hs, (wa1.ch k2 (fun x hx hx2 => by simp at hx2; subst hx2; exact hr hx)).gr g3, d2.gr g3, ?_, fun x hx => ?_⟩
  · have h1 : Ch (r :: S) w W := hW.ch _
    have h2 : Ch (r :: S) W w1 := k1.wide (fun x hx => List.mem_cons_of_mem _ hx)
    have h3 : Ch (r :: S) w1 w2 := k2.wide (fun x hx => by simp at hx; subst hx; simp)
    exact ((h1.tr h2 (fun x hx => .inl hx)).tr h3 (fun x hx => .inl hx)).more g3
  · rcases f1 x hx with h | h
    · exact .inl h
    · exact .inr (Nat.le_trans hW.size_le h)
set_option maxRecDepth 100000 in
set_option maxHeartbeats 4000000 in
theorem does19 (g : Nat) (S : List Nat) (r : Nat) (s : TS) (w : World) (k p n : Int) (raw : Bool) (wa : WA w g S s) (d : DW w r s) (hk : 0 ≤ k ∧ k ≤ 255) (hn : 0 ≤ n ∧ n ≤ 18446744073709551615) (hl : s.last < 1000) :
    Calls Try.prog 17 #[.pointer (some ⟨g, 0, none⟩), .pointer (some ⟨r, 0, none⟩), .agg #[.int .u8 k, .int .i64 p, .int .u64 n, .bool raw]] w (DoesW g S r s k p n raw w) := by
  have hX := Blk.new w 44 #[.int .u8 k, .int .i64 p, .int .u64 n, .bool raw]
  have hg1 : Gr w (w.alloc (.cells #[.int .u8 k, .int .i64 p, .int .u64 n, .bool raw] 44)) := (Gr.refl w).al _
  have hXS : w.heap.size ∉ S ∧ w.heap.size ≠ r := ⟨fun hm => by have := wa.inn _ hm; omega, by have := d.hdr.lt; omega⟩
  replace wa := wa.gr hg1
  replace d := d.gr hg1
  go_enter Try.func17, Try.ntmps17
  go_upto_region 1 with fail
  generalize w.alloc (.cells #[.int .u8 k, .int .i64 p, .int .u64 n, .bool raw] 44) = W at *
  generalize w.heap.size = X at *
  have hcell : ∀ w', Blk w' X 44 #[.int .u8 k, .int .i64 p, .int .u64 n, .bool raw] → w'.cell? ⟨X, 0, none⟩ = some (.int .u8 k) ∧ w'.cell? ⟨X, 1, none⟩ = some (.int .i64 p) ∧ w'.cell? ⟨X, 2, none⟩ = some (.int .u64 n) ∧ w'.cell? ⟨X, 3, none⟩ = some (.bool raw) :=
    fun w' b => ⟨b.cell 0, b.cell 1, b.cell 2, b.cell 3⟩
  obtain ⟨a0, a1, a2, a3⟩ := hcell W hX
  have HG := Lib.hid hg1
  have HB := Lib.hid (And.intro wa d)
  have HX := Lib.hid (And.intro hX hXS)
  have HC := Lib.hid hcell
  have HN := Lib.hid (And.intro hn hl)
  clear hX hXS hg1 hcell wa d hl
  have hk6 : k % 6 = 3 ∨ k % 6 = 4 ∨ k % 6 = 5 ∨ (k % 6 ≠ 3 ∧ k % 6 ≠ 4 ∧ k % 6 ≠ 5) := by omega
  rcases hk6 with hk6 | hk6 | hk6 | hk6
  · have HS := Lib.hid (show StepR s k p n raw (canS s p) from .inl ⟨hk6, rfl⟩)
    have B0 := Lib.hid (And.intro (HB.out.1.gr ((Gr.refl W).drew)) (HB.out.2.gr ((Gr.refl W).drew)))
    have C1 := Lib.hid (wcan g S s p W.drew B0.out.1)
    have C2 := Lib.hid (fun w' (c : Ch S W.drew w') => dcan r s p w' (B0.out.2.ch c (B0.out.1.ned B0.out.2)))
    generalize hasB s p = q at *
    have hq : (q == q) = true := by simp
    go_wp2_with fail
    go_region_held3 (fun w' => w'.cell? ⟨X, 1, none⟩ = some (.int .i64 p))
      (first | exact a1 | exact (HC.out _ ((HX.out.1.drew.ch k2 HX.out.2.1).ch k3 (by simpa using HX.out.2.2))).2.1 | exact (HC.out _ (HX.out.1.drew.ch k2 HX.out.2.1)).2.1)
      (first
      | (go_at_call 29; refine (C1.out).mono ?_; rintro e w2 ⟨rfl, S2, wa2, k2, f2⟩)
      | (go_at_call 43; refine (C2.out _ k2).mono ?_; rintro e w3 ⟨rfl, d3, k3⟩))
    all_goals
      go_wp2_with fail
      go_ret
      exact doesW_mk HG.out.drew B0.out.1 B0.out.2 HS.out k2 wa2 f2 k3 d3 (Gr.refl _)
  · by_cases hM : s.now = 18446744073709551615
    · have HS := Lib.hid (show StepR s k p n raw s from .inr (.inl ⟨hk6, hM, rfl⟩))
      have C1 := Lib.hid (wturn_top g S s W HB.out.1 hM)
      have C2 := Lib.hid (fun w' (c : Gr W w') => dturn_top r s w' (HB.out.2.gr c) hM)
      clear hM
      go_wp2_with (first
        | (go_at_call 13; refine (C1.out).mono ?_; rintro e w2 ⟨rfl, g2⟩)
        | (go_at_call 44; refine (C2.out _ g2).mono ?_; rintro e w3 ⟨rfl, rfl⟩)
        | (go_at_call 19; refine (same_any [] _ _ _ (Sl.nil _ _ _) (Sl.nil _ _ _) (by simp)).mono ?_; rintro e w4 ⟨rfl, g4⟩))
      go_ret
      exact doesW_mk HG.out HB.out.1 HB.out.2 HS.out (Ch.refl _ _) HB.out.1 (Foot.refl _ _) (Ch.refl _ _) HB.out.2 (g2.tr g4)
    · have hM2 : s.now < 18446744073709551615 := by have := HB.out.1.tg.nowM; omega
      have HS := Lib.hid (show StepR s k p n raw (turnT s) from .inr (.inr (.inl ⟨hk6, hM2, rfl⟩)))
      have C1 := Lib.hid (wturn g S s W HB.out.1 hM2)
      have C2 := Lib.hid (fun w' (c : Ch S W w') => dturn r s w' (HB.out.2.ch c (HB.out.1.ned HB.out.2)) hM2)
      clear hM hM2
      go_wp2_with (first
        | (go_at_call 13; refine (C1.out).mono ?_; rintro e w2 ⟨v, l, S2, rfl, hdue, r2, wa2, k2, f2, d2, fv2⟩; have H2 := Lib.hid (And.intro hdue (And.intro r2 (And.intro wa2 (And.intro k2 f2)))); clear hdue r2 wa2 k2 f2 d2 fv2)
        | (go_at_call 44; refine (C2.out _ H2.out.2.2.2.1).mono ?_; rintro e w3 ⟨v3, l3, rfl, hdue3, r3, d3, k3⟩; obtain rfl := H2.out.1.uniq hdue3; have H3 := Lib.hid (And.intro (H2.out.2.1.ch k3 (fun x hx hx2 => by simp at hx2; subst hx2; exact H2.out.2.1.ned (HB.out.2.ch H2.out.2.2.2.1 (HB.out.1.ned HB.out.2)) hx)) (And.intro r3 (And.intro d3 k3))); have hl3 := hdue3.len; clear hdue3 r3 d3 k3)
        | (go_at_call 19; refine (same_any l _ _ _ H3.out.1 H3.out.2.1 (by omega)).mono ?_; rintro e w4 ⟨rfl, g4⟩))
      go_ret
      exact doesW_mk HG.out HB.out.1 HB.out.2 HS.out H2.out.2.2.2.1 H2.out.2.2.1 H2.out.2.2.2.2 H3.out.2.2.2 H3.out.2.2.1 g4
  · have hm := nnS_b HN.out.1
    have HS := Lib.hid (fun l x s' (h : SkipEnd s (nnS n) l x s') => (show StepR s k p n raw s' from .inr (.inr (.inr (.inl ⟨hk6, l, x, h⟩)))))
    have C1 := Lib.hid (wskip g S s (nnS n) W HB.out.1 hm)
    have C2 := Lib.hid (fun w' (c : Ch S W w') => dskip r s (nnS n) w' (HB.out.2.ch c (HB.out.1.ned HB.out.2)) hm)
    have HNN := Lib.hid (show nnS n = if 30000 < n then n % 30000 else n from rfl)
    obtain ⟨m, hmm⟩ : ∃ m, nnS n = m := ⟨_, rfl⟩
    rw [hmm] at C1 C2 HNN HS
    clear hmm hm
    go_upto_region 2 with fail
    rw [hk6]
    clear hk6
    go_upto_if 39 with fail
    go_cut [7] (fun v wx => v = .int .u64 m ∧ W = wx)
    case first =>
      by_cases h1 : 30000 < n
      · have hd : decide (30000 < n) = true := by simpa using h1
        have h2 := HNN.out
        rw [if_pos h1] at h2
        have H2 := Lib.hid h2
        clear h2
        go_wp2_with fail
        go_meet
        case rel => exact ⟨by rw [H2.out], rfl⟩
      · have hd : decide (30000 < n) = false := by simpa using h1
        have h2 := HNN.out
        rw [if_neg h1] at h2
        have H2 := Lib.hid h2
        clear h2
        go_wp2_with fail
        go_meet
        case rel => exact ⟨by rw [H2.out], rfl⟩
    case rest =>
      obtain ⟨rfl, rfl⟩ := hcut
      go_wp2_with (first
        | (go_at_call 18; refine (C1.out).mono ?_; rintro e w2 ⟨v, l, x, s', S2, rfl, hse, r2, wa2, k2, f2, d2, fv2⟩; have H2 := Lib.hid (And.intro hse (And.intro r2 (And.intro wa2 (And.intro k2 f2)))); clear hse r2 wa2 k2 f2 d2 fv2)
        | (go_at_call 45; refine (C2.out _ H2.out.2.2.2.1).mono ?_; rintro e w3 ⟨v3, l3, x3, s3, rfl, hse3, r3, d3, k3⟩; obtain ⟨rfl, rfl, rfl⟩ := H2.out.1.uniq hse3; have H3 := Lib.hid (And.intro (H2.out.2.1.ch k3 (fun y hy hy2 => by simp at hy2; subst hy2; exact H2.out.2.1.ned (HB.out.2.ch H2.out.2.2.2.1 (HB.out.1.ned HB.out.2)) hy)) (And.intro r3 (And.intro d3 k3))); have hl3 := skip_len hse3; clear hse3 r3 d3 k3)
        | (go_at_call 19; refine (same_any l _ _ _ H3.out.1 H3.out.2.1 (by omega)).mono ?_; rintro e w4 ⟨rfl, g4⟩))
      go_ret
      exact doesW_mk HG.out HB.out.1 HB.out.2 (HS.out _ _ _ H2.out.1) H2.out.2.2.2.1 H2.out.2.2.1 H2.out.2.2.2.2 H3.out.2.2.2 H3.out.2.2.1 g4
  · obtain ⟨h3, h4, h5⟩ := hk6
    have HS := Lib.hid (show StepR s k p n raw (setS s p (atS s n raw)) from .inr (.inr (.inr (.inr ⟨h3, h4, h5, rfl⟩))))
    have e3 : (k % 6 == 3) = false := by simpa using h3
    have e4 : (k % 6 == 4) = false := by simpa using h4
    have e5 : (k % 6 == 5) = false := by simpa using h5
    obtain ⟨c0, _, cf⟩ := HB.out.2.head
    have C1 := Lib.hid (fun w' (c : Gr W w') => wset g S s p (atS s n raw) w' (HB.out.1.gr c) (atS_b HN.out.1) (by have := HN.out.2; omega))
    have C2 := Lib.hid (fun w' w'' (c : Gr W w') (c2 : Ch S w' w'') => dset r s p (atS s n raw) w'' ((HB.out.2.gr c).ch c2 (HB.out.1.ned HB.out.2)) (atS_b HN.out.1) (by have := HN.out.2; omega))
    have HAT := Lib.hid (show atS s n raw = if raw = true then n else (s.now + n) % 18446744073709551616 from rfl)
    have HBB := Lib.hid (And.intro HB.out.1.tg.now0 HB.out.1.tg.nowM)
    obtain ⟨t, ht⟩ : ∃ t, atS s n raw = t := ⟨_, rfl⟩
    rw [ht] at C1 C2 HAT HS
    clear ht h3 h4 h5
    go_upto_if 66 with fail
    go_cut [12] (fun v wx => v = .int .u64 t ∧ Gr W wx)
    case first =>
      cases raw with
      | true =>
        have h2 := HAT.out
        rw [if_pos rfl] at h2
        have H2 := Lib.hid h2
        clear h2
        go_wp2_with fail
        go_meet
        case rel => exact ⟨by rw [H2.out], Gr.refl _⟩
      | false =>
        have h2 := HAT.out
        rw [if_neg (by simp)] at h2
        have H2 := Lib.hid h2
        clear h2
        obtain ⟨b, hb⟩ : ∃ b, s.now = b := ⟨_, rfl⟩
        rw [hb] at c0 H2
        clear hb
        go_upto_region 15 with fail
        go_quiet (fail)
        go_wp2
        go_meet
        case rel => exact ⟨by rw [H2.out]; try rfl, (Gr.refl W).drewN _⟩
    case rest =>
      obtain ⟨rfl, gc⟩ := hcut
      have HW := Lib.hid gc
      have hXc := HX.out.1.gr gc
      obtain ⟨a0, a1', a2, a3⟩ := HC.out _ hXc
      have HXc := Lib.hid hXc
      have B0 := Lib.hid (And.intro (HB.out.1.gr gc) (HB.out.2.gr gc))
      have C1' := Lib.hid (C1.out wc.drew gc.drew)
      have C2' := Lib.hid (fun w'' c2 => C2.out wc.drew w'' gc.drew c2)
      generalize setE s p t = q at *
      have hq : (q == q) = true := by simp
      clear c0 cf gc hXc
      go_wp2_with fail
      go_region_held3 (fun w' => w'.cell? ⟨X, 1, none⟩ = some (.int .i64 p))
        (first | exact a1' | exact (HC.out _ ((HXc.out.drew.ch k2 HX.out.2.1).ch k3 (by simpa using HX.out.2.2))).2.1 | exact (HC.out _ (HXc.out.drew.ch k2 HX.out.2.1)).2.1)
        (first
        | (go_at_call 12; refine (C1'.out).mono ?_; rintro e w2 ⟨rfl, S2, wa2, k2, f2⟩)
        | (go_at_call 46; refine (C2'.out _ k2).mono ?_; rintro e w3 ⟨rfl, d3, k3⟩))
      all_goals
        go_wp2_with fail
        go_ret
        exact doesW_mk (HG.out.tr HW.out.drew) (B0.out.1.gr ((Gr.refl wc).drew)) (B0.out.2.gr ((Gr.refl wc).drew)) HS.out k2 wa2 f2 k3 d3 (Gr.refl _)
end Go.Proofs.Ytbeoomjcipbjjaa
