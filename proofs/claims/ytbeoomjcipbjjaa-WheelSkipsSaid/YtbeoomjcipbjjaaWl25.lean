/- The walk of the law WheelSkips of chapter 19 (wheel): it returns true for every input, and changes nothing that was there. -/
import Derived.Test.YtbeoomjcipbjjaaWl24
namespace Go.Proofs.Ytbeoomjcipbjjaa
open Go.RowKit
set_option linter.unusedVariables false

/-- Behind T of the x turns of a Skip: what the last of them rang, and the state. -/
def SkAt (s : TS) (x : Int) (l : List Int) (s' : TS) (T : Int) (l' : List Int) (st : TS) : Prop :=
  (T < x ∧ l' = [] ∧ Quiet s T ∧ st = advT s T) ∨ (T = x ∧ l' = l ∧ st = s')
theorem Quiet.zero {s : TS} (t : TG s) : Quiet s 0 := fun p hp => by have := t.late p hp; omega
theorem Quiet.le {s : TS} {j k : Int} (q : Quiet s k) (h : j ≤ k) : Quiet s j := fun p hp => by have := q p hp; omega
theorem quiet_none {s : TS} {k : Int} {l : List Int} (q : Quiet s (k + 1)) (h : IsDue (advT s k) l) : l = [] := by
  cases l with
  | nil => rfl
  | cons x r =>
    obtain ⟨p, _, _, h1, h2⟩ := (h.2 x).1 (by simp)
    have := q p h1
    have f : s.du p = s.now + k + 1 := h2
    omega
theorem SkipEnd.x0 {s : TS} {n : Int} {l : List Int} {x : Int} {s' : TS} (h : SkipEnd s n l x s') : 0 ≤ x ∧ x ≤ n := by
  rcases h with ⟨k, h0, h1, _, _, _, _, rfl, _⟩ | ⟨h0, h1, _⟩ <;> omega
theorem SkAt.zero {s : TS} {n : Int} {l : List Int} {x : Int} {s' : TS} (t : TG s) (h : SkipEnd s n l x s') : SkAt s x l s' 0 [] s := by
  by_cases hx : 0 < x
  · exact .inl ⟨hx, rfl, Quiet.zero t, (advT_zero s).symm⟩
  · have := h.x0
    obtain rfl : x = 0 := by omega
    rcases h with ⟨k, h0, h1, _, _, _, _, h2, _⟩ | ⟨_, _, _, _, _, rfl, rfl⟩
    · omega
    · exact .inr ⟨rfl, rfl, (advT_zero s).symm⟩
theorem SkAt.now {s : TS} {n : Int} {l : List Int} {x : Int} {s' : TS} (h : SkipEnd s n l x s') {T : Int} {l' : List Int} {st : TS} (a : SkAt s x l s' T l' st) (hT : T < x) : l' = [] ∧ st.now < 18446744073709551615 := by
  rcases a with ⟨_, rfl, q, rfl⟩ | ⟨rfl, _⟩
  · refine ⟨rfl, ?_⟩
    show s.now + T < _
    rcases h with ⟨k, h0, h1, _, h3, _, _, rfl, _⟩ | ⟨h0, h1, _, h3, h4, _⟩ <;> omega
  · omega
theorem SkAt.next {s : TS} {n : Int} {l : List Int} {x : Int} {s' : TS} (t : TG s) (h : SkipEnd s n l x s') {T : Int} (hT0 : 0 ≤ T) {l' : List Int} {st : TS} (a : SkAt s x l s' T l' st) (hT : T < x) {l2 : List Int} (hd : IsDue st l2) : SkAt s x l s' (T + 1) l2 (turnT st) := by
  have t0 := t.now0
  rcases a with ⟨_, rfl, q, rfl⟩ | ⟨rfl, _⟩
  · rcases h with ⟨k, h0, h1, h2, h3, h4, h5, rfl, rfl⟩ | ⟨h0, h1, h2, h3, h4, rfl, rfl⟩
    · by_cases e : T = k
      · subst e
        exact .inr ⟨rfl, hd.uniq h4, rfl⟩
      · have hl := quiet_none (h2.le (j := T + 1) (by omega)) hd
        have := q.step t (by omega) hd hl
        exact .inl ⟨by omega, hl, this.1, this.2⟩
    · have hl := quiet_none (h2.le (j := T + 1) (by omega)) hd
      have := q.step t (by omega) hd hl
      by_cases e : T + 1 = x
      · exact .inr ⟨e, hl, by rw [this.2, e]⟩
      · exact .inl ⟨by omega, hl, this.1, this.2⟩
  · omega
theorem SkAt.done {s : TS} {l : List Int} {x : Int} {s' : TS} {l' : List Int} {st : TS} (a : SkAt s x l s' x l' st) : l' = l ∧ st = s' := by
  rcases a with ⟨h, _⟩ | ⟨_, h1, h2⟩
  · omega
  · exact ⟨h1, h2⟩
/-- Two pairs of wheels at the same state, in different blocks. -/
structure Twin (w wr : World) (g1 : Nat) (S1 : List Nat) (r1 g2 : Nat) (S2 : List Nat) (r2 : Nat) (s : TS) (k : Nat) : Prop where
  a : Both w wr g1 S1 r1 s k
  b : Both w wr g2 S2 r2 s k
  dj : Disj S1 S2
  ne : r1 ≠ r2
theorem Twin.more {w wr w' : World} {g1 : Nat} {S1 : List Nat} {r1 g2 : Nat} {S2 : List Nat} {r2 : Nat} {s : TS} {k : Nat} (h : Twin w wr g1 S1 r1 g2 S2 r2 s k) (q : Gr wr w') : Twin w w' g1 S1 r1 g2 S2 r2 s k :=
  ⟨h.a.more q, h.b.more q, h.dj, h.ne⟩
/-- One pair has taken a call, the other not yet. -/
structure Half (w wr : World) (g1 : Nat) (S1 : List Nat) (r1 g2 : Nat) (S2 : List Nat) (r2 : Nat) (s s' : TS) (k : Nat) : Prop where
  a : Both w wr g1 S1 r1 s' (k + 1)
  b : Both w wr g2 S2 r2 s k
  dj : Disj S1 S2
  ne : r1 ≠ r2
theorem Twin.first {w wr w' : World} {g1 : Nat} {S1 : List Nat} {r1 g2 : Nat} {S2 : List Nat} {r2 : Nat} {s : TS} {k : Nat} {kd p n : Int} {raw : Bool} {e : Ending} (h : Twin w wr g1 S1 r1 g2 S2 r2 s k) (q : DoesW g1 S1 r1 s kd p n raw wr e w') :
    e = .returned (.bool true) ∧ ∃ s' S', StepR s kd p n raw s' ∧ Half w w' g1 S' r1 g2 S2 r2 s s' k := by
  obtain ⟨he, s', S', hs, hb, hc, hf⟩ := h.a.does q
  have h1 : r1 ∉ S2 := h.b.wa.ned h.a.d
  have h2 : r2 ∉ S1 := h.a.wa.ned h.b.d
  refine ⟨he, s', S', hs, hb, h.b.chg hc (fun x hx hm => ?_) (fun hm => ?_) hb.gr, Disj.foot h.dj h.b.wa.inn hf, h.ne⟩
  · rcases List.mem_cons.1 hm with rfl | hm
    · exact h1 hx
    · exact h.dj x hm hx
  · rcases List.mem_cons.1 hm with e | hm
    · exact h.ne e.symm
    · exact h2 hm
theorem Half.second {w wr w' : World} {g1 : Nat} {S1 : List Nat} {r1 g2 : Nat} {S2 : List Nat} {r2 : Nat} {s s' : TS} {k : Nat} {kd p n : Int} {raw : Bool} {e : Ending} (h : Half w wr g1 S1 r1 g2 S2 r2 s s' k) (hs : StepR s kd p n raw s') (q : DoesW g2 S2 r2 s kd p n raw wr e w') :
    e = .returned (.bool true) ∧ ∃ S', Twin w w' g1 S1 r1 g2 S' r2 s' (k + 1) := by
  obtain ⟨he, s2, S', hs2, hb, hc, hf⟩ := h.b.does q
  obtain rfl := hs.uniq hs2
  have h1 : r1 ∉ S2 := h.b.wa.ned h.a.d
  have h2 : r2 ∉ S1 := h.a.wa.ned h.b.d
  refine ⟨he, S', h.a.chg hc (fun x hx hm => ?_) (fun hm => ?_) hb.gr, hb, (Disj.foot h.dj.symm h.a.wa.inn hf).symm, h.ne⟩
  · rcases List.mem_cons.1 hm with rfl | hm
    · exact h2 hx
    · exact h.dj x hx hm
  · rcases List.mem_cons.1 hm with e | hm
    · exact h.ne e
    · exact h1 hm
/-- The first pair's wheel behind its Skip, the second pair's behind some turns. -/
structure TurnInv (w wy : World) (g1 : Nat) (S1 : List Nat) (s' : TS) (v : Value) (l : List Int) (g2 : Nat) (S2 : List Nat) (st : TS) (vy : Value) (l' : List Int) : Prop where
  wa : WA wy g1 S1 s'
  sv : Sl 3 .i64 wy v l
  wb : WA wy g2 S2 st
  sy : Sl 3 .i64 wy vy l'
  gr : Gr w wy
  dj : Disj S1 S2
  dv : Disj (sb v) S2
  f2 : Foot w [] S2
theorem TurnInv.step {w wy w' : World} {g1 : Nat} {S1 : List Nat} {s' : TS} {v : Value} {l : List Int} {g2 : Nat} {S2 : List Nat} {st : TS} {vy : Value} {l' : List Int} (h : TurnInv w wy g1 S1 s' v l g2 S2 st vy l')
    {S2' : List Nat} {st' : TS} {vy' : Value} {l2 : List Int} (k : Ch S2 wy w') (hb : WA w' g2 S2' st') (f : Foot wy S2 S2') (sy : Sl 3 .i64 w' vy' l2) : TurnInv w w' g1 S1 s' v l g2 S2' st' vy' l2 :=
  ⟨h.wa.ch k h.dj, h.sv.ch k h.dv, hb, sy, h.gr.new k h.f2, (Disj.foot h.dj.symm h.wa.inn f).symm, (Disj.foot h.dv.symm h.sv.inn f).symm, h.f2.tr f h.gr.size_le⟩
theorem TurnInv.more {w wy w' : World} {g1 : Nat} {S1 : List Nat} {s' : TS} {v : Value} {l : List Int} {g2 : Nat} {S2 : List Nat} {st : TS} {vy : Value} {l' : List Int} (h : TurnInv w wy g1 S1 s' v l g2 S2 st vy l') (q : Gr wy w') : TurnInv w w' g1 S1 s' v l g2 S2 st vy l' :=
  ⟨h.wa.gr q, h.sv.gr q, h.wb.gr q, h.sy.gr q, h.gr.tr q, h.dj, h.dv, h.f2⟩
theorem WA.now {w : World} {g : Nat} {S : List Nat} {s : TS} (h : WA w g S s) : Calls Try.prog 15 #[.pointer (some ⟨g, 0, none⟩)] w fun e w' => e = .returned (.int .u64 s.now) ∧ w = w' := by
  obtain ⟨L, V, m, _, _⟩ := h.ex
  exact wnow g s L V w m
set_option maxRecDepth 100000 in
set_option maxHeartbeats 4000000 in
theorem wheelSkips_walk (x : Int) (ar : Option Addr) (len cap : Nat) (F : Nat → Nat → Value) (n : Int) (w : World) (hx : 0 ≤ x ∧ x ≤ 18446744073709551615) (h : RecsIn Try.prog 44 w ar len cap 4 F) (hn : 0 ≤ n ∧ n ≤ 65535) :
    Calls Try.prog 4 #[.int .u64 x, .slice ar len cap, .int .u16 n] w fun e w' => e = .returned (.bool true) ∧ Gr w w' := by
  have HA := Lib.hid (acts_of h)
  have HR := Lib.hid h.row
  have CN := Lib.hid (fun w => wnewA x w hx)
  have HX := Lib.hid hx
  have HN := Lib.hid hn
  obtain ⟨hlen, hcap, _, _⟩ := h
  clear hx
  go_enter Try.func4, Try.ntmps4
  go_upto_region 2 with (go_at_call 11; refine (CN.out _).mono ?_; rintro e w1 ⟨rfl, S1, h1, g1, f1⟩)
  have H1 := Lib.hid (And.intro h1 (And.intro g1 f1))
  clear h1 g1 f1
  go_upto_region 3 with (go_at_call 11; refine (CN.out _).mono ?_; rintro e w2 ⟨rfl, S2, h2, g2, f2⟩)
  go_upto_region 5 with fail
  have T0 : Twin w ((w2.alloc (.cells (Try.zeroCells41.setIfInBounds 0 (.int .u64 x)) 41)).alloc (.cells (Try.zeroCells41.setIfInBounds 0 (.int .u64 x)) 41)) w.heap.size S1 w2.heap.size w1.heap.size S2 (w2.heap.size + 1) (newS x) 0 := by
    have q : Gr w2 ((w2.alloc (.cells (Try.zeroCells41.setIfInBounds 0 (.int .u64 x)) 41)).alloc (.cells (Try.zeroCells41.setIfInBounds 0 (.int .u64 x)) 41)) := ((Gr.refl w2).al _).al _
    have d1 := DW.new0 x w2 HX.out
    have d2 := DW.new0 x (w2.alloc (.cells (Try.zeroCells41.setIfInBounds 0 (.int .u64 x)) 41)) HX.out
    rw [World.size_alloc] at d2
    have z1 := H1.out.2.1.size_le
    have z2 := g2.size_le
    have f2' : Foot w [] S2 := fun b hb => by
      rcases f2 b hb with e | e
      · cases e
      · exact .inr (by omega)
    refine ⟨⟨(H1.out.1.gr g2).gr q, d1.gr ((Gr.refl _).al _), Int.le_refl _, (H1.out.2.1.tr g2).tr q, by omega, H1.out.2.2⟩, ⟨h2.gr q, d2, Int.le_refl _, (H1.out.2.1.tr g2).tr q, by omega, f2'⟩, fun b hb hb2 => ?_, by omega⟩
    have := H1.out.1.inn b hb
    rcases f2 b hb2 with e | e
    · cases e
    · omega
  clear h2 g2 f2 H1 CN
  generalize ((w2.alloc (.cells (Try.zeroCells41.setIfInBounds 0 (.int .u64 x)) 41)).alloc (.cells (Try.zeroCells41.setIfInBounds 0 (.int .u64 x)) 41)) = W0 at *
  generalize w2.heap.size + 1 = r2 at *
  generalize w2.heap.size = r1 at *
  generalize w1.heap.size = g2 at *
  obtain ⟨g1, hg1⟩ : ∃ g1, w.heap.size = g1 := ⟨_, rfl⟩
  rw [hg1] at T0 ⊢
  have HG1 := Lib.hid hg1
  clear hg1
  have HT0 := Lib.hid T0
  have CW := Lib.hid (awake19)
  clear T0
  go_wp2_with fail
  go_loopw [11] (fun i wr => ∃ (k : Nat) (S1 S2 : List Nat) (s : TS), k ≤ len ∧ k ≤ 20 ∧ i = .int .i64 k ∧ Twin w wr g1 S1 r1 g2 S2 r2 s k) (fun i _ => len - (intOf i).toNat)
  case atStart => exact ⟨0, S1, S2, newS x, by omega, by omega, rfl, HT0.out⟩
  case round =>
    obtain ⟨k, S1, S2, s, hk, hk20, rfl, hb⟩ := hrel
    have HH := Lib.hid hb
    clear hb HT0
    by_cases hlt : k < len ∧ k < 20
    · obtain ⟨hlt, h20⟩ := hlt
      have hd : decide ((k : Int) < (len : Int)) = true := by simpa using hlt
      have hd2 : decide ((k : Int) < 20) = true := by simp; omega
      rcases HR.out with h0 | ⟨bz, off, rfl, hc⟩
      · omega
      obtain ⟨kd, p, m, raw, e0, e1, e2, e3, hkd, hm⟩ := HA.out k hlt
      have HL := Lib.hid (fun (wx : World) (c : Gr w wx) => (show wx.cell? ⟨bz, off + k * 4, none⟩ = some (.int .u8 kd) ∧ wx.cell? ⟨bz, off + k * 4 + 1, none⟩ = some (.int .i64 p) ∧ wx.cell? ⟨bz, off + k * 4 + 2, none⟩ = some (.int .u64 m) ∧ wx.cell? ⟨bz, off + k * 4 + 3, none⟩ = some (.bool raw) from
        ⟨c.cell_some (by rw [← e0]; exact hc k 0 hlt (by omega)), c.cell_some (by rw [← e1]; exact hc k 1 hlt (by omega)), c.cell_some (by rw [← e2]; exact hc k 2 hlt (by omega)), c.cell_some (by rw [← e3]; exact hc k 3 hlt (by omega))⟩))
      have HC := Lib.hid (does19 g1 S1 r1 s wr kd p m raw HH.out.a.wa HH.out.a.d hkd hm (by have := HH.out.a.few; omega))
      have HD := Lib.hid (And.intro hkd hm)
      clear e0 e1 e2 e3 hc hkd hm
      obtain ⟨c0, c1, c2, c3⟩ := HL.out wr HH.out.a.gr
      go_wp2_with (first
        | (go_at_call 17; refine (HC.out).mono ?_; rintro e w3 hdo; obtain ⟨rfl, s', S1', hs, hb3⟩ := HH.out.first hdo; have H3 := Lib.hid hb3; have HS := Lib.hid hs; clear hdo hs hb3 HC; obtain ⟨b0, b1, b2, b3⟩ := HL.out w3 H3.out.a.gr)
        | (go_at_call 17; refine (does19 g2 S2 r2 s _ kd p m raw H3.out.b.wa H3.out.b.d HD.out.1 HD.out.2 (by have := H3.out.b.few; omega)).mono ?_; rintro e w4 hdo; obtain ⟨rfl, S2', hb4⟩ := H3.out.second HS.out hdo; have H4 := Lib.hid hb4; clear hdo hb4))
      go_roundw
      case rel => exact ⟨k + 1, S1', S2', s', by omega, by omega, by go_num, H4.out⟩
      case measure => simp [intOf]; omega
    · have hd : k = len ∨ (k < len ∧ k = 20) := by omega
      clear hlt
      have hd' : k = len ∨ (k < len ∧ decide ((k : Int) < 20) = false) := hd.imp id (fun h => ⟨h.1, by simp; omega⟩)
      clear hd
      rcases hd' with rfl | ⟨hd, hd2⟩
      all_goals
        go_upto_region 10 with fail
        go_upto_region 11 with (go_at_call 18; refine (wskip g1 S1 s n wr HH.out.a.wa (by have := HN.out; omega)).mono ?_; rintro e w3 ⟨v, l, xk, s', S1', rfl, hse, rv, wa1, k1, f1, d1, fv1⟩; have hx0 := hse.x0; obtain ⟨hx1, hx2⟩ := hx0; have hdx : decide (n < xk) = false := by simp; omega)
        have hl64 := skip_len hse
        have I0 : TurnInv w w3 g1 S1' s' v l g2 S2 s (.slice none 0 0) [] :=
          ⟨wa1, rv, HH.out.b.wa.ch k1 HH.out.dj.symm, Sl.nil _ _ _, HH.out.a.gr.new k1 HH.out.a.fS, Disj.foot HH.out.dj HH.out.b.wa.inn f1, Disj.foot HH.out.dj HH.out.b.wa.inn fv1, HH.out.b.fS⟩
        have HI0 := Lib.hid I0
        have HSE := Lib.hid (And.intro hse HH.out.a.wa.tg)
        have hn2 := HN.out.2
        clear hse rv wa1 k1 f1 d1 fv1 I0
        go_wp2_with fail
        go_loopw [14, 15] (fun y i wy => ∃ (T : Int) (S2 : List Nat) (l' : List Int) (st : TS), 0 ≤ T ∧ T ≤ xk ∧ i = .int .u64 T ∧ SkAt s xk l s' T l' st ∧ TurnInv w wy g1 S1' s' v l g2 S2 st y l') (fun _ i _ => (xk - intOf i).toNat)
        case atStart => exact ⟨0, S2, [], s, by omega, hx1, rfl, SkAt.zero HSE.out.2 HSE.out.1, HI0.out⟩
        case round =>
          obtain ⟨T, S2, l', st, hT0, hTx, rfl, hat, hI⟩ := hrel
          have HI := Lib.hid hI
          clear hI HI0
          obtain ⟨na, ka, rfl, _, _⟩ := HI.out.sy.len
          by_cases hlt : T < xk
          · have hd3 : decide (T < xk) = true := by simpa using hlt
            obtain ⟨rfl, hM⟩ := hat.now HSE.out.1 hlt
            have CT := Lib.hid (wturn g2 S2 st _ HI.out.wb hM)
            have HAT := Lib.hid (fun l2 => hat.next HSE.out.2 HSE.out.1 hT0 hlt (l2 := l2))
            clear hat hM
            go_wp2_with (go_at_call 13; refine (CT.out).mono ?_; rintro e w5 ⟨v5, l5, S3, rfl, hdue, r5, wa5, k5, f5, d5, fv5⟩)
            go_roundw
            case rel => exact ⟨T + 1, S3, l5, turnT st, by omega, by omega, by go_num, HAT.out l5 hdue, HI.out.step k5 wa5 f5 r5⟩
            case measure => simp [intOf]; omega
          · obtain rfl : T = xk := by omega
            have hd3 : decide (T < T) = false := by simp
            obtain ⟨rfl, rfl⟩ := hat.done
            clear hlt
            go_wp2_with (first
              | (go_at_call 19; refine (same_any l' _ _ _ HI.out.sv HI.out.sy (by omega)).mono ?_; rintro e w4 ⟨rfl, g4⟩; have H4 := Lib.hid (HI.out.more g4); clear g4 HI)
              | (go_at_call 14; refine (wall g1 S1' st _ H4.out.wa).mono ?_; rintro e w5 ⟨v5, l5, rfl, hall5, r5, g5⟩; have H5 := Lib.hid (And.intro hall5 (And.intro r5 (H4.out.more g5))); clear hall5 r5 g5 H4)
              | (go_at_call 14; refine (wall g2 S2 st _ H5.out.2.2.wb).mono ?_; rintro e w6 ⟨v6, l6, rfl, hall6, r6, g6⟩; obtain rfl := H5.out.1.uniq hall6; have H6 := Lib.hid (And.intro (H5.out.2.1.gr g6) (And.intro r6 (H5.out.2.2.more g6))); have hl5 := hall6.len; clear hall6 r6 g6)
              | (go_at_call 19; refine (same_any l5 _ _ _ H6.out.1 H6.out.2.1 (by omega)).mono ?_; rintro e w7 ⟨rfl, g7⟩; have H7 := Lib.hid (H6.out.2.2.more g7); clear g7 H6)
              | (go_at_call 15; refine (H7.out.wa.now).mono ?_; rintro e w8 ⟨rfl, rfl⟩; have H8 := H7; clear H7)
              | (go_at_call 15; refine (H8.out.wb.now).mono ?_; rintro e w8 ⟨rfl, rfl⟩)
              | (go_at_call 16; refine (CW.out _).mono ?_; rintro e w8 ⟨rfl, g8⟩))
            go_ret
            exact ⟨rfl, H8.out.gr.tr g8⟩
end Go.Proofs.Ytbeoomjcipbjjaa
