/- The page's example (awake) of chapter 27 (nap), and the walk of the law NapNil. -/
import Derived.Test.YtbeoomjcipbjjaaNp5
namespace Go.Proofs.Ytbeoomjcipbjjaa
open Go.RowKit
set_option linter.unusedVariables false

def k1N : Nat → Int := updT (fun _ => 0) 3 1
def s1N : TS := setT (newS 5) 3 7
theorem beg1N : begV (fun _ => 0) 3 1 2 = .tuple #[.bool true, .int .i64 0] := by
  unfold begV
  rw [show begOk (fun _ => 0) 3 1 2 = true by decide +kernel, show begE (fun _ => 0) 3 1 = 0 by decide +kernel]
theorem begS1N : begS (newS 5) (fun _ => 0) 3 1 2 = s1N ∧ begK (fun _ => 0) 3 1 2 = k1N := by
  have h : begOk (fun _ => 0) 3 1 2 = true := by decide +kernel
  unfold begS begK
  rw [h]
  exact ⟨rfl, rfl⟩
theorem no1N (p : Nat) : s1N.no p ≠ 0 ↔ p = 3 := by
  show updT (fun _ => 0) 3 ((0 : Int) + 1) p ≠ 0 ↔ _
  unfold updT
  by_cases h : p = 3 <;> simp [h]
theorem due1N {l : List Int} (h : IsDue s1N l) : l = [] := by
  cases l with
  | nil => rfl
  | cons x r =>
    obtain ⟨p, _, _, h1, h2⟩ := (h.2 x).1 (by simp)
    rw [no1N] at h1
    subst h1
    have : (7 : Int) = 5 + 1 := h2
    omega
theorem due2N {l : List Int} (h : IsDue (turnT s1N) l) : l = [3] := by
  refine h.uniq ⟨by simp, fun x => ?_⟩
  have hk : ∀ p, (turnT s1N).no p ≠ 0 ∧ (turnT s1N).du p = (turnT s1N).now + 1 ↔ p = 3 := fun p => by
    show (if s1N.du p = 5 + 1 then 0 else s1N.no p) ≠ 0 ∧ (if s1N.du p = 5 + 1 then 0 else s1N.du p) = (5 + 1 + 1 : Int) ↔ _
    have hd : s1N.du p = if p = 3 then 7 else 0 := rfl
    have hn := no1N p
    by_cases e : p = 3
    · subst e
      have h7 : s1N.du 3 = 7 := rfl
      rw [h7, if_neg (by omega), if_neg (by omega)]
      simp [no1N]
    · have h0 : s1N.du p = 0 := by rw [hd, if_neg e]
      rw [h0]
      simp [e]
  constructor
  · intro hx
    simp at hx
    exact ⟨3, hx, by omega, ((hk 3).2 rfl).1, ((hk 3).2 rfl).2⟩
  · rintro ⟨p, rfl, _, h1, h2⟩
    have := (hk p).1 ⟨h1, h2⟩
    subst this
    simp
theorem kd3N : tickK s1N k1N 3 = 1 := by decide +kernel
theorem dueC3 {K : Nat → Int} (h : K 3 = 1) : dueC K [3] = [.int .i64 3, .int .i64 1] := by
  show [Value.int .i64 3, .int .i64 (K (3 : Int).toNat)] = _
  rw [show (3 : Int).toNat = 3 from rfl, h]
/-- Naps in blocks that are new since w. -/
structure NF (w wr : World) (q g C : Nat) (S : List Nat) (s : TS) (K : Nat → Int) : Prop where
  m : NM wr q g C S s K
  gr : Gr w wr
  fq : w.heap.size ≤ q
  fS : Foot w [] S
section
variable {w wr w' : World} {q g C : Nat} {S : List Nat} {s s' : TS} {K K' : Nat → Int} (h : NF w wr q g C S s K)
include h
theorem NF.more (k : Gr wr w') : NF w w' q g C S s K := ⟨h.m.gr k, h.gr.tr k, h.fq, h.fS⟩
theorem NF.chs {T : List Nat} (k : Ch (q :: T) wr w') (f : Foot w [] T) : Gr w w' := h.gr.chs k fun x hx => by
  rcases List.mem_cons.1 hx with rfl | hx
  · exact h.fq
  · exact (f x hx).elim (fun e => by cases e) id
theorem NF.to (k : NTo q g C S s' K' wr w') : ∃ S', NF w w' q g C S' s' K' := by
  obtain ⟨S', m', k', f'⟩ := k
  exact ⟨S', m', h.chs k' h.fS, h.fq, h.fS.tr f' h.gr.size_le⟩
theorem NF.tick {e : Ending} (k : NTick q g C S s K wr e w') : ∃ v l S', e = .returned v ∧ IsDue s l ∧ SC 2 56 w' v l.length (dueC K l) ∧ NF w w' q g C S' (turnT s) (tickK s K) ∧ Foot wr [] (sb v) ∧ Ch (q :: S) wr w' ∧ Foot wr S S' := by
  obtain ⟨v, l, S', he, hd, sc, m', k', f', fv⟩ := k
  exact ⟨v, l, S', he, hd, sc, ⟨m', h.chs k' h.fS, h.fq, h.fS.tr f' h.gr.size_le⟩, fv, k', f'⟩
end
theorem NF.new {n : Int} {w w' : World} {e : Ending} (k : NewN n w e w') : ∃ q g C S, e = .returned (.pointer (some ⟨q, 0, none⟩)) ∧ NF w w' q g C S (newS n) (fun _ => 0) := by
  obtain ⟨q, g, C, S, he, m, gr, fo⟩ := k
  exact ⟨q, g, C, S, he, m, gr, (fo q (by simp)).elim (fun e => by cases e) id, fun x hx => fo x (by simp [hx])⟩
set_option maxRecDepth 100000 in
set_option maxHeartbeats 1000000 in
theorem awake27 (w : World) : Calls Try.prog 25 #[] w fun e w' => e = .returned (.bool true) ∧ Gr w w' := by
  have CN := Lib.hid (fun w => nnew 5 w (by omega))
  go_enter Try.func25, Try.ntmps25
  go_upto_region 2 with (go_at_call 20; refine (CN.out _).mono ?_; rintro e w1 hn; obtain ⟨q, g, C, S, rfl, h1⟩ := NF.new hn; clear hn)
  have H1 := Lib.hid h1
  clear h1 CN
  have CB := Lib.hid (nbegin q g C S (newS 5) (fun _ => 0) 3 1 2 w1 H1.out.m (by omega) (by show (0 : Int) < _; omega))
  rw [beg1N, begS1N.1, begS1N.2] at CB
  go_upto_region 3 with (go_at_call 21; refine (CB.out).mono ?_; rintro e w2 ⟨rfl, hn⟩; obtain ⟨S2, h2⟩ := H1.out.to hn; clear hn)
  have H2 := Lib.hid h2
  clear h2 H1 CB
  have CT := Lib.hid (ntick q g C S2 s1N k1N w2 H2.out.m (by show (5 : Int) < _; omega))
  go_upto_region 4 with (go_at_call 22; refine (CT.out).mono ?_; rintro e w3 hn; obtain ⟨v3, l3, S3, rfl, hd3, sc3, h3, fv3, _, _⟩ := H2.out.tick hn; clear hn)
  obtain rfl := due1N hd3
  obtain ⟨a3, c3, rfl, _, _⟩ := sc3.len
  have H3 := Lib.hid h3
  clear h3 H2 CT hd3 sc3 fv3
  have CT := Lib.hid (ntick q g C S3 (turnT s1N) (tickK s1N k1N) w3 H3.out.m (by show (5 + 1 : Int) < _; omega))
  go_upto_region 5 with (go_at_call 22; refine (CT.out).mono ?_; rintro e w4 hn; obtain ⟨v4, l4, S4, rfl, hd4, sc4, h4, fv4, _, _⟩ := H3.out.tick hn; clear hn)
  obtain rfl := due2N hd4
  rw [dueC3 kd3N] at sc4
  obtain ⟨b4, o4, c4, rfl, _, _, hc4, _, _⟩ := sc4.cells (by decide)
  have x0 := hc4 0 _ rfl
  have x1 := hc4 1 _ rfl
  rw [Nat.add_zero] at x0
  have H4 := Lib.hid h4
  clear h4 H3 CT hd4 sc4 fv4 hc4
  have CL := Lib.hid (nclock q g C S4 _ _ w4 H4.out.m)
  rw [show (turnT (turnT s1N)).now = 7 from rfl] at CL
  go_wp2_with (go_at_call 31; refine (CL.out).mono ?_; rintro e w5 ⟨rfl, rfl⟩)
  go_ret
  exact ⟨rfl, H4.out.gr⟩
theorem napNil_walk (p t : Int) (w : World) (hp : -9223372036854775808 ≤ p ∧ p ≤ 9223372036854775807) (ht : 0 ≤ t ∧ t ≤ 18446744073709551615) :
    Calls Try.prog 10 #[.int .i64 p, .int .u64 t] w fun e w' => e = .returned (.bool true) ∧ Gr w w' := by
  have C1 := Lib.hid (fun p k t w => nbegin_nil p k t w)
  have C2 := Lib.hid (fun p w => ntill_nil p w)
  have C3 := Lib.hid (fun p w => ncancel_nil p w)
  have C4 := Lib.hid (fun p w => nkind_nil p w)
  have C5 := Lib.hid (fun w => ntick_nil w)
  have C6 := Lib.hid (fun w => nlen_nil w)
  have C7 := Lib.hid (fun w => nclock_nil w)
  have C8 := Lib.hid (fun w => awake27 w)
  go_enter Try.func10, Try.ntmps10
  go_wp2_with (first
    | (go_at_call 21; refine (C1.out _ _ _ _).mono ?_; rintro e w' ⟨rfl, rfl⟩)
    | (go_at_call 30; refine (C2.out _ _).mono ?_; rintro e w' ⟨rfl, rfl⟩)
    | (go_at_call 34; refine (C3.out _ _).mono ?_; rintro e w' ⟨rfl, rfl⟩)
    | (go_at_call 23; refine (C4.out _ _).mono ?_; rintro e w' ⟨rfl, rfl⟩)
    | (go_at_call 22; refine (C5.out _).mono ?_; rintro e w' ⟨rfl, rfl⟩)
    | (go_at_call 24; refine (C6.out _).mono ?_; rintro e w' ⟨rfl, rfl⟩)
    | (go_at_call 31; refine (C7.out _).mono ?_; rintro e w' ⟨rfl, rfl⟩)
    | (go_at_call 25; refine (C8.out _).mono ?_; rintro e w8 ⟨rfl, g8⟩))
  go_ret
  exact ⟨rfl, g8⟩
end Go.Proofs.Ytbeoomjcipbjjaa
