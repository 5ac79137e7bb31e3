/- A call of both naps (does) of chapter 27. -/
import Derived.Test.YtbeoomjcipbjjaaNp13
import Derived.Test.YtbeoomjcipbjjaaNp6
namespace Go.Proofs.Ytbeoomjcipbjjaa
open Go.RowKit
set_option linter.unusedVariables false

/-- The program's naps and the document's, in blocks that are new since w. -/
structure HN (w wr : World) (q g C : Nat) (S : List Nat) (r : Nat) (v : Value) (s : TS) (K : Nat → Int) (n : Int) (D : List NE) : Prop where
  nf : NF w wr q g C S s K
  nd : ND wr r n D v
  hr : w.heap.size ≤ r
  fv : Foot w [] (sb v)
section
variable {w wr w' : World} {q g C : Nat} {S : List Nat} {r : Nat} {v : Value} {s : TS} {K : Nat → Int} {n : Int} {D : List NE} (h : HN w wr q g C S r v s K n D)
include h
theorem HN.blk {A : Nat} {t : TypeId} {cs : Array Value} (hA : Blk wr A t cs) (h1 : t ≠ 100 ∧ t ≠ 49 ∧ t ≠ 86 ∧ t ≠ 3) : A ∉ q :: C :: S := fun hm => by
  have hq := h.nf.m.hdr
  have hC := h.nf.m.box
  simp only [List.mem_cons] at hm
  rcases hm with rfl | rfl | hm
  · unfold Arr Blk at hq; unfold Blk at hA; rw [hA] at hq; simp at hq; exact h1.1 hq.2
  · unfold Blk at hA hC; rw [hA] at hC; simp at hC; exact h1.2.1 hC.2
  · exact h.nf.m.wa.ne hA h1.2.2.1 h1.2.2.2 hm
theorem HN.blk2 {A : Nat} {t : TypeId} {cs : Array Value} (hA : Blk wr A t cs) (h1 : t ≠ 72 ∧ t ≠ 77) : A ∉ r :: sb v := fun hm => by
  have hd := h.nd.hdr
  rcases List.mem_cons.1 hm with rfl | hm
  · unfold Blk at hA hd; rw [hA] at hd; simp at hd; exact h1.1 hd.2
  · exact h.nd.row.ne hA h1.2 hm
theorem HN.dj : Disj (q :: C :: S) (r :: sb v) := fun x hx hm => by
  rcases List.mem_cons.1 hm with rfl | hm
  · exact h.blk h.nd.hdr (by decide) hx
  · obtain ⟨_, _, a, cp, rfl, _, _, h3⟩ := h.nd.row
    rcases h3 with ⟨rfl, _⟩ | ⟨b, off, cur, rfl, h5, _⟩
    · simp [sb] at hm
    · simp [sb] at hm; subst hm; exact h.blk h5 (by decide) hx
theorem HN.more (k : Gr wr w') : HN w w' q g C S r v s K n D := ⟨h.nf.more k, h.nd.gr k, h.hr, h.fv⟩
theorem HN.prog {s' : TS} {K' : Nat → Int} (k : NTo q g C S s' K' wr w') : ∃ S', HN w w' q g C S' r v s' K' n D := by
  obtain ⟨S', h'⟩ := h.nf.to k
  obtain ⟨_, _, k', _⟩ := k
  exact ⟨S', h', h.nd.ch k' (fun x hx hm => h.dj x (by simp only [List.mem_cons] at hm ⊢; rcases hm with e | e <;> simp [e]) hx), h.hr, h.fv⟩
theorem HN.doc {n' : Int} {D' : List NE} {v' : Value} (d : ND w' r n' D' v') (k : Ch [r] wr w') (f : Foot wr (sb v) (sb v')) : HN w w' q g C S r v' s K n' D' := by
  have gr : Gr w w' := h.nf.gr.chs k (by simpa using h.hr)
  exact ⟨⟨h.nf.m.ch k (fun x hx hm => by simp at hm; subst hm; exact h.dj x hx (by simp)), gr, h.nf.fq, h.nf.fS⟩, d, h.hr, h.fv.tr f h.nf.gr.size_le⟩
theorem HN.keep {A : Nat} {t : TypeId} {cs : Array Value} (hA : Blk wr A t cs) (h1 : t ≠ 100 ∧ t ≠ 49 ∧ t ≠ 86 ∧ t ≠ 3) (k : Ch (q :: S) wr w') : Blk w' A t cs :=
  hA.ch k (fun hm => h.blk hA h1 (by simp only [List.mem_cons] at hm ⊢; rcases hm with e | e <;> simp [e]))
theorem HN.keep2 {A : Nat} {t : TypeId} {cs : Array Value} (hA : Blk wr A t cs) (h1 : t ≠ 72 ∧ t ≠ 77) (k : Ch [r] wr w') : Blk w' A t cs :=
  hA.ch k (fun hm => h.blk2 hA h1 (by simp at hm; subst hm; simp))
end
theorem HN.tick {w wr w' : World} {q g C : Nat} {S : List Nat} {r : Nat} {v : Value} {s : TS} {K : Nat → Int} {n : Int} {D : List NE} (h : HN w wr q g C S r v s K n D) {e : Ending} (k : NTick q g C S s K wr e w') :
    ∃ va l S', e = .returned va ∧ IsDue s l ∧ SC 2 56 w' va l.length (dueC K l) ∧ HN w w' q g C S' r v (turnT s) (tickK s K) n D := by
  obtain ⟨va, l, S', he, hd, sc, nf, _, k', _⟩ := h.nf.tick k
  exact ⟨va, l, S', he, hd, sc, nf, h.nd.ch k' (fun x hx hm => h.dj x (by simp only [List.mem_cons] at hm ⊢; rcases hm with e | e <;> simp [e]) hx), h.hr, h.fv⟩
theorem HN.dtick {w wr w' : World} {q g C : Nat} {S : List Nat} {r : Nat} {v : Value} {s : TS} {K : Nat → Int} {n : Int} {D : List NE} (h : HN w wr q g C S r v s K n D) {e : Ending} (k : DTick r n D wr e w') :
    ∃ vd v', e = .returned vd ∧ SC 4 77 w' vd (D.filter (dueD n)).length (encD (D.filter (dueD n))) ∧ HN w w' q g C S r v' s K (n + 1) (D.filter fun x => !dueD n x) ∧ Ch [r] wr w' := by
  obtain ⟨vd, v', he, sc, nd, k', f, _⟩ := k
  exact ⟨vd, v', he, sc, h.doc nd k' (fun x hx => .inr (f.new x hx)), k'⟩
/-- Both at states that go together, behind k calls. -/
structure NB (w wr : World) (q g C : Nat) (S : List Nat) (r : Nat) (v : Value) (s : TS) (K : Nat → Int) (D : List NE) (k : Nat) : Prop where
  h : HN w wr q g C S r v s K s.now D
  nr : NR s K D
  few : s.last ≤ k
def DoesN (w : World) (q g C r : Nat) (k : Nat) (e : Ending) (w' : World) : Prop := e = .returned (.bool true) ∧ ∃ S v s K D, NB w w' q g C S r v s K D k
theorem begS_now (s : TS) (K : Nat → Int) (p k t : Int) : (begS s K p k t).now = s.now := by unfold begS; split; exact begT_now _ _ _; rfl
theorem begS_last (s : TS) (K : Nat → Int) (p k t : Int) : (begS s K p k t).last ≤ s.last + 1 := by
  unfold begS; split
  · exact begT_last _ _ _
  · omega
theorem canNS_now (s : TS) (K : Nat → Int) (p : Int) : (canNS s K p).now = s.now := by unfold canNS; split; rfl; exact canN_now _ _
theorem canNS_last (s : TS) (K : Nat → Int) (p : Int) : (canNS s K p).last = s.last := by unfold canNS; split; rfl; exact canN_last _ _
set_option maxRecDepth 100000 in
set_option maxHeartbeats 4000000 in
theorem does27 (w0 w : World) (q g C : Nat) (S : List Nat) (r : Nat) (v : Value) (s : TS) (K : Nat → Int) (D : List NE) (c : Nat) (kd p k2 t : Int) (hB : NB w0 w q g C S r v s K D c) (hc : c < 1000) (hk : 0 ≤ kd ∧ kd ≤ 255) (ht : 0 ≤ t ∧ t ≤ 18446744073709551615) :
    Calls Try.prog 32 #[.pointer (some ⟨q, 0, none⟩), .pointer (some ⟨r, 0, none⟩), .agg #[.int .u8 kd, .int .i64 p, .int .i64 k2, .int .u64 t]] w (DoesN w0 q g C r (c + 1)) := by
  have hX := Blk.new w 75 #[.int .u8 kd, .int .i64 p, .int .i64 k2, .int .u64 t]
  have hg1 : Gr w (w.alloc (.cells #[.int .u8 kd, .int .i64 p, .int .i64 k2, .int .u64 t] 75)) := (Gr.refl w).al _
  have hB1 : NB w0 (w.alloc (.cells #[.int .u8 kd, .int .i64 p, .int .i64 k2, .int .u64 t] 75)) q g C S r v s K D c := ⟨hB.h.more hg1, hB.nr, hB.few⟩
  go_enter Try.func32, Try.ntmps32
  go_upto_region 1 with fail
  generalize w.alloc (.cells #[.int .u8 kd, .int .i64 p, .int .i64 k2, .int .u64 t] 75) = W at *
  generalize w.heap.size = X at *
  have hcell : ∀ w', Blk w' X 75 #[.int .u8 kd, .int .i64 p, .int .i64 k2, .int .u64 t] → w'.cell? ⟨X, 0, none⟩ = some (.int .u8 kd) ∧ w'.cell? ⟨X, 1, none⟩ = some (.int .i64 p) ∧ w'.cell? ⟨X, 2, none⟩ = some (.int .i64 k2) ∧ w'.cell? ⟨X, 3, none⟩ = some (.int .u64 t) :=
    fun w' b => ⟨b.cell 0, b.cell 1, b.cell 2, b.cell 3⟩
  obtain ⟨a0, a1, a2, a3⟩ := hcell W hX
  have HB := Lib.hid hB1
  have HX := Lib.hid hX
  have HC := Lib.hid hcell
  have HT := Lib.hid (And.intro ht hc)
  clear hX hg1 hcell hB hB1 hc
  have hk5 : kd % 5 = 2 ∨ kd % 5 = 3 ∨ kd % 5 = 4 ∨ (kd % 5 ≠ 2 ∧ kd % 5 ≠ 3 ∧ kd % 5 ≠ 4) := by omega
  rcases hk5 with hk5 | hk5 | hk5 | hk5
  · have B0 := Lib.hid (HB.out.h.more (Gr.refl W).drew)
    have X0 := Lib.hid (HX.out.drew)
    have C1 := Lib.hid (ncancel q g C S s K p W.drew B0.out.nf.m)
    have HNR := Lib.hid (HB.out.nr.can p)
    have HF := Lib.hid HB.out
    have C2 := Lib.hid (fun w' (m : ND w' r s.now D v) => dcancel r s K D v p w' m HF.out.nr)
    generalize decide (kdS K p ≠ 0) = b at *
    have hq : (b == b) = true := by simp
    go_wp2_with fail
    go_region_held3 (fun w' => w'.cell? ⟨X, 1, none⟩ = some (.int .i64 p))
      (first | exact a1 | exact (HC.out _ XB3.out).2.1 | exact (HC.out _ XB2.out).2.1)
      (first
      | (go_at_call 34; refine (C1.out).mono ?_; rintro e w2 ⟨rfl, hn⟩; have XB2 := Lib.hid (B0.out.keep X0.out (by decide) hn.choose_spec.2.1); obtain ⟨S2, h2⟩ := B0.out.prog hn; have H2 := Lib.hid h2; clear hn h2)
      | (go_at_call 55; refine (C2.out _ H2.out.nd).mono ?_; rintro e w3 ⟨rfl, v3, m3, k3, f3⟩; have XB3 := Lib.hid (H2.out.keep2 XB2.out (by decide) k3); have H3 := Lib.hid (H2.out.doc m3 k3 f3); clear m3 k3 f3))
    all_goals
      go_wp2_with fail
      go_ret
      exact ⟨rfl, _, _, _, _, _, ⟨by rw [canNS_now]; exact H3.out, HNR.out, by rw [canNS_last]; have := HF.out.few; omega⟩⟩
  rotate_left 2
  · obtain ⟨h3, h4, h5⟩ := hk5
    have e3 : (kd % 5 == 2) = false := by simpa using h3
    have e4 : (kd % 5 == 3) = false := by simpa using h4
    have e5 : (kd % 5 == 4) = false := by simpa using h5
    have hl : s.last < 18446744073709551615 := by have := HB.out.few; have := HT.out.2; omega
    have C1 := Lib.hid (nbegin q g C S s K p k2 t W HB.out.h.nf.m HT.out.1 hl)
    have HNR := Lib.hid (HB.out.nr.beg p k2 t hl HT.out.1.1)
    have C2 := Lib.hid (fun w' (m : ND w' r s.now D v) => dbegin r s K D v p k2 t w' m HB.out.nr HT.out.1)
    obtain ⟨ok, er, hbv⟩ : ∃ (ok : Bool) (er : Int), begV K p k2 t = .tuple #[.bool ok, .int .i64 er] := ⟨_, _, rfl⟩
    rw [hbv] at C1 C2
    have q1 : (ok == ok) = true := by simp
    have q2 : (er == er) = true := by simp
    clear hbv h3 h4 h5 hl
    go_wp2_with (first
      | (go_at_call 21; refine (C1.out).mono ?_; rintro e w2 ⟨rfl, hn⟩; have XB2 := Lib.hid (HB.out.h.keep HX.out (by decide) hn.choose_spec.2.1); obtain ⟨S2, h2⟩ := HB.out.h.prog hn; have H2 := Lib.hid h2; clear hn h2; obtain ⟨b0, b1, b2, b3⟩ := HC.out _ XB2.out)
      | (go_at_call 58; refine (C2.out _ H2.out.nd).mono ?_; rintro e w3 ⟨rfl, v3, m3, k3, f3⟩; have H3 := Lib.hid (H2.out.doc m3 k3 f3); clear m3 k3 f3))
    go_ret
    exact ⟨rfl, _, _, _, _, _, ⟨by rw [begS_now]; exact H3.out, HNR.out, by have := begS_last s K p k2 t; have := HB.out.few; omega⟩⟩
  all_goals
    go_upto_region 2 with fail
    rw [hk5]
    clear hk5
    have ht1 := HT.out.1.1
    have ht2 := HT.out.1.2
    obtain ⟨m, hm⟩ := Int.eq_ofNat_of_zero_le (show 0 ≤ t % 301 by omega)
    have hm3 : m ≤ 300 := by omega
    go_upto_region 7 with fail
    rw [hm]
    clear hm a0 a1 a2 a3 hk ht1 ht2
    go_wp2_with fail
    go_loopw [7] (fun i wr => ∃ (j : Nat) (S : List Nat) (v : Value) (s : TS) (K : Nat → Int) (D : List NE), j ≤ 300 ∧ i = .int .u64 j ∧ NB w0 wr q g C S r v s K D c) (fun i _ => (intOf i).toNat)
    case atStart => exact ⟨m, S, v, s, K, D, hm3, rfl, HB.out⟩
    case round =>
      obtain ⟨j, S2, v2, s2, K2, D2, hj, rfl, hb⟩ := hrel
      have H := Lib.hid hb
      clear hb HB HX HC
      by_cases h0 : 0 < j
      · have hj0 : decide ((0 : Int) < (j : Int)) = true := by simpa using h0
        have g0 : Gr wr wr.drew := (Gr.refl wr).drew
        have H0 := Lib.hid (H.out.h.more g0)
        by_cases hM : s2.now = 18446744073709551615
        · have HMM := Lib.hid hM
          have C1 := Lib.hid (ntick_top q g C S2 s2 K2 wr.drew H0.out.nf.m hM)
          have q1 : (s2.now != s2.now) = false := by simp
          clear hM
          go_upto_region 9 with fail
          go_region_law (first
            | (go_simp; go_at_call 22; refine (C1.out).mono ?_; rintro e w2 ⟨rfl, g2⟩; have H2 := Lib.hid (H0.out.more g2); clear g2)
            | (go_simp; go_at_call 57; refine (dtick_top r s2.now D2 v2 _ H2.out.nd HMM.out).mono ?_; rintro e w3 ⟨rfl, rfl⟩)
            | (go_simp; go_at_call 56; refine (nsame K2 [] _ _ _ (by simp) (by simp) (SC.nil _ _ _) (SC.nil _ _ _)).mono ?_; rintro e w4 ⟨rfl, g4⟩; have H4 := Lib.hid (H2.out.more g4); clear g4; obtain ⟨d0, _, _⟩ := H4.out.nd.hdr.c2)
            | (go_simp; go_at_call 31; refine (nclock q g C S2 s2 K2 _ H4.out.nf.m).mono ?_; rintro e w5 ⟨rfl, rfl⟩))
          all_goals
            go_wp2_with fail
            go_roundw
            case rel => exact ⟨j - 1, S2, v2, s2, K2, D2, by omega, by congr 1; omega, H4.out, H.out.nr, H.out.few⟩
            case measure => simp [intOf]; omega
        · have hM2 : s2.now < 18446744073709551615 := by have := H.out.nr.nk.tg.nowM; omega
          have hn0 := H.out.nr.nk.tg.now0
          have C1 := Lib.hid (ntick q g C S2 s2 K2 wr.drew H0.out.nf.m hM2)
          have HNR := Lib.hid (And.intro (H.out.nr.tick hM2) (And.intro (H.out.nr.due hM2) (fun x hx => (H.out.nr.mem x hx).2.1)))
          have hl1 := H.out.nr.le64
          have C2 := Lib.hid (fun w' (m : ND w' r s2.now D2 v2) => dtick r s2.now D2 v2 w' m ⟨hn0, hM2⟩ hl1)
          have hl2 : (D2.filter (dueD s2.now)).length ≤ 64 := Nat.le_trans (List.length_filter_le _ _) hl1
          clear hM hM2 hn0 hl1
          go_upto_region 9 with fail
          go_region_law (first
            | (go_simp; go_at_call 22; refine (C1.out).mono ?_; rintro e w2 hn; obtain ⟨va, l, S3, rfl, hd, sc, h2⟩ := H0.out.tick hn; obtain rfl := hd.uniq HNR.out.2.1; rw [List.length_map] at sc; have H2 := Lib.hid (And.intro h2 sc); clear hn hd sc h2)
            | (go_simp; go_at_call 57; refine (C2.out _ H2.out.1.nd).mono ?_; rintro e w3 hn; obtain ⟨vd, v3, rfl, sd, h3, k3⟩ := H2.out.1.dtick hn; have H3 := Lib.hid (And.intro h3 (And.intro sd (H2.out.2.ch k3 (fun x hx hm => by simp at hm; subst hm; exact H2.out.2.ne H2.out.1.nd.hdr (by decide) hx)))); clear hn sd h3 k3)
            | (go_simp; go_at_call 56; refine (nsame K2 (D2.filter (dueD s2.now)) _ _ _ (fun x hx => HNR.out.2.2 x (List.mem_filter.1 hx).1) hl2 H3.out.2.2 H3.out.2.1).mono ?_; rintro e w4 ⟨rfl, g4⟩; have H4 := Lib.hid (H3.out.1.more g4); clear g4; obtain ⟨d0, _, _⟩ := H4.out.nd.hdr.c2)
            | (go_simp; go_at_call 31; refine (nclock q g C S3 (turnT s2) (tickK s2 K2) _ H4.out.nf.m).mono ?_; rw [show (turnT s2).now = s2.now + 1 from rfl]; rintro e w5 ⟨rfl, rfl⟩))
          all_goals
            go_wp2_with fail
            go_roundw
            case rel => exact ⟨j - 1, S3, v3, turnT s2, tickK s2 K2, _, by omega, by congr 1; omega, H4.out, HNR.out.1, H.out.few⟩
            case measure => simp [intOf]; omega
      · obtain rfl : j = 0 := by omega
        go_wp2_with fail
        go_ret
        exact ⟨rfl, _, _, _, _, _, H.out.h, H.out.nr, by have := H.out.few; omega⟩
end Go.Proofs.Ytbeoomjcipbjjaa
