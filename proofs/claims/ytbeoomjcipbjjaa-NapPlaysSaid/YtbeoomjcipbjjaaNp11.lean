/- The contract of the document's Begin (chapter 27), for every input. -/
import Derived.Test.YtbeoomjcipbjjaaNp10
namespace Go.Proofs.Ytbeoomjcipbjjaa
open Go.RowKit
set_option linter.unusedVariables false

theorem el70 : Elem Try.prog 70 77 (.agg #[.int .i64 0, .int .i64 0, .int .u64 0, .bool false]) 4 32 := ⟨Try.underlying70, by kernel_rfl, rfl, by decide⟩
theorem SC.empty {m : Nat} {e : TypeId} {w : World} {g : Nat} (h : Blk w g e #[]) : SC m e w (.slice (some ⟨g, 0, none⟩) 0 0) 0 [] := ⟨by simp, by simp, _, 0, rfl, by omega, by omega, .inr ⟨g, 0, #[], rfl, h, by simp, by simp⟩⟩
theorem SC.at1 {m : Nat} {e : TypeId} {w : World} {g : Nat} {us : Array Value} (h : Blk w g e us) (hs : us.size = m) (h1 : us.toList.all (fun u => u.oneCell') = true) : SC m e w (.slice (some ⟨g, 0, none⟩) 1 1) 1 us.toList :=
  ⟨by simp [hs], fun c hc => List.all_eq_true.1 h1 c hc, _, 1, rfl, by omega, by omega, .inr ⟨g, 0, us, rfl, h, by omega, fun i c hc => by simpa using hc⟩⟩
theorem step_at {P : Program} {ops : Array Oper} {o : Oper} {a : Act} (w : World) {K : Act → World → Prop} {Q : Exit → Act → World → Prop} {E' : Prop} (h : if Region.wanted o (yielded ops a.tmps) = true then Oper.wp P o a w K Q else E') : if Region.wanted o (yielded ops a.tmps) = true then Oper.wp P o a w K Q else E' := h
theorem Blk.new1 (w : World) (o : Obj) (t : TypeId) (cs : Array Value) : Blk ((w.alloc o).alloc (.cells cs t)) (w.heap.size + 1) t cs := by
  have hh := Blk.new (w.alloc o) t cs
  rwa [World.size_alloc] at hh
def begD (s : TS) (K : Nat → Int) (D : List NE) (p k t : Int) : List NE := if begOk K p k t = true then D ++ [⟨p.toNat, k, addT s.now t, decide (addT s.now t = s.now)⟩] else D
theorem NR.beg {s : TS} {K : Nat → Int} {D : List NE} (h : NR s K D) (p k t : Int) (hl : s.last < 18446744073709551615) (ht : 0 ≤ t) : NR (begS s K p k t) (begK K p k t) (begD s K D p k t) := by
  unfold begS begK begD
  by_cases hok : begOk K p k t = true
  · rw [hok, if_pos rfl, if_pos rfl, if_pos rfl]
    unfold begOk at hok
    simp only [Bool.and_eq_true, decide_eq_true_eq] at hok
    obtain ⟨⟨⟨hp, hk⟩, h0⟩, ht0⟩ := hok
    obtain ⟨i, rfl⟩ := Int.eq_ofNat_of_zero_le hp.1
    rw [kdS_at K (by omega)] at h0
    rw [Int.toNat_natCast]
    exact h.begin (by omega) hk h0 (by omega) hl
  · rw [if_neg hok, if_neg hok, if_neg hok]; exact h
def DBeg (r : Nat) (n : Int) (D' : List NE) (v : Value) (res : Value) (w : World) (e : Ending) (w' : World) : Prop := e = .returned res ∧ ∃ v', ND w' r n D' v' ∧ Ch [r] w w' ∧ Foot w (sb v) (sb v')
theorem DBeg.same {r : Nat} {n : Int} {D : List NE} {v res : Value} {w w' : World} (m : ND w r n D v) (k : Gr w w') : DBeg r n D v res w (.returned res) w' := ⟨rfl, v, m.gr k, k.ch _, Foot.refl _ _⟩
/-- The row's new slice is laid into the document's naps. -/
theorem nd_store {r : Nat} {n : Int} {D D' : List NE} {v v' : Value} {w w' : World} (m : ND w r n D v) (g : Gr w w') (s : SC 4 77 w' v' D'.length (encD D')) (f : Foot w [] (sb v')) :
    ND (w'.setCell ⟨r, 1, none⟩ v') r n D' v' ∧ Ch [r] w (w'.setCell ⟨r, 1, none⟩ v') ∧ Foot w (sb v) (sb v') := by
  have hr : Blk w' r 72 #[.int .u64 n, v] := m.hdr.gr g
  have k : Ch [r] w' (w'.setCell ⟨r, 1, none⟩ v') := (Ch.refl [r] w').st (by simp) _
  refine ⟨⟨hr.st 1 v', s.ch k (fun x hx hm => ?_)⟩, (g.ch [r]).tr k (fun x hx => .inl hx), fun x hx => .inr ?_⟩
  · simp at hm
    subst hm
    exact s.ne hr (by decide) hx
  · exact (f x hx).elim (fun h => by cases h) id
theorem begOk_at0 (K : Nat → Int) {p : Nat} (hp : p < 64) (h0 : K p = 0) {k : Int} (hk : k = 1 ∨ k = 2) : begOk K p k 0 = false := by
  unfold begOk; simp
set_option maxRecDepth 100000 in
set_option maxHeartbeats 4000000 in
theorem dbeg_ok (r : Nat) (s : TS) (K : Nat → Int) (D : List NE) (v : Value) (i : Nat) (k t : Int) (w : World) (m : ND w r s.now D v) (h : NR s K D) (hi : i < 64) (hk : k = 1 ∨ k = 2) (h0 : K i = 0) (ht : 0 < t ∧ t ≤ 18446744073709551615) :
    Calls Try.prog 58 #[.pointer (some ⟨r, 0, none⟩), .int .i64 i, .int .i64 k, .int .u64 t] w (DBeg r s.now (D ++ [⟨i, k, addT s.now t, decide (addT s.now t = s.now)⟩]) v (.tuple #[.bool true, .int .i64 0]) w) := by
  have hl64 := h.le64
  have hn : 0 ≤ s.now ∧ s.now ≤ 18446744073709551615 := ⟨h.nk.tg.now0, h.nk.tg.nowM⟩
  have CA := Lib.hid (radd_any s.now t w hn ⟨by omega, ht.2⟩)
  have CI : Hid (Calls Try.prog 33 #[.pointer (some ⟨r, 0, none⟩), .int .i64 i] w fun e w' => e = .returned (.int .i64 (-1)) ∧ w = w') := Lib.hid ((dat r s.now D v i w m hl64).mono fun e w' ⟨k, he, hat, hw⟩ => by
    rcases hat.neg h with ⟨_, rfl⟩ | ⟨h1, _⟩
    · exact ⟨he, hw⟩
    · rw [kdS_at K hi] at h1; exact absurd h0 h1)
  have q0 : (t == 0) = false := by simp; omega
  have i1 : decide ((63 : Int) < (i : Int)) = false := by simp; omega
  have hdec : decide (addT s.now t = s.now) = (addT s.now t == s.now) := by rw [Bool.eq_iff_iff]; simp
  rw [hdec]
  generalize addT s.now t = a at *
  generalize s.now = n at *
  clear hdec h hn h0 ht
  obtain ⟨c0, c1, cf⟩ := m.hdr.c2
  obtain ⟨al, cl, rfl, hcl, _⟩ := m.row.len
  have hrw := m.hdr.lt
  have HM := Lib.hid m
  have HE : Hid (SC 4 77 w (.slice al D.length cl) D.length (encD D)) := Lib.hid m.row
  clear m
  have HF : Hid (∀ w' v', Gr w w' → SC 4 77 w' v' (D.length + 1) (encD D ++ [.int .i64 i, .int .i64 k, .int .u64 a, .bool (a == n)]) → Foot w [] (sb v') → DBeg r n (D ++ [⟨i, k, a, a == n⟩]) (.slice al D.length cl) (.tuple #[.bool true, .int .i64 0]) w (.returned (.tuple #[.bool true, .int .i64 0])) (w'.setCell ⟨r, 1, none⟩ v')) := Lib.hid (fun w' v' g s f => by
    have h := nd_store (D' := D ++ [⟨i, k, a, a == n⟩]) HM.out g (by rw [encD_app, List.length_append]; exact s) f
    exact ⟨rfl, v', h⟩)
  rcases hk with rfl | rfl
  · go_enter Try.func58, Try.ntmps58
    go_upto_region 10 with (first
      | (go_at_call 33; refine (CI.out).mono ?_; rintro e w1 ⟨rfl, rfl⟩)
      | (go_at_call 65; refine (CA.out).mono ?_; rintro e w1 ⟨rfl, rfl⟩))
    have g0 : Gr w w.drew := (Gr.refl w).drew
    have KP := Lib.hid (fun (w' : World) (g : Gr w w') => (show w'.cell? ⟨r, 0, none⟩ = some (.int .u64 n) ∧ w'.cell? ⟨r, 1, none⟩ = some (.slice al D.length cl) from ⟨g.cell_some c0, g.cell_some c1⟩))
    have KZ := Lib.hid (fun (w' : World) (g : Gr w w') => (HM.out.hdr.gr g).frozen)
    go_region_law (first
      | ((with_reducible refine step_at ((w.alloc (.cells #[] 77)).drew) ?_); refine step_scA el70 (.tmp 36) (.tmp 40) (.slice (some ⟨w.heap.size, 0, none⟩) 0 0) (.slice al D.length cl) 0 D.length [] (encD D) (w.drew.alloc (.cells #[] 77)) rfl rfl rfl rfl (SC.empty (Blk.new w.drew 77 #[])) (HE.out.gr (g0.al _)) (by omega) (by omega) ?_; intro v5 w5 s5 k5 f5; rw [Nat.zero_add, List.nil_append] at s5; have G5 : Gr w w5 := (g0.al (.cells #[] 77)).chs k5 (by simp [sb]); have S5 := Lib.hid (And.intro s5 (show Foot w [] (sb v5) from fun x hx => by rcases f5 x hx with h | h; (simp [sb] at h; exact .inr (by omega)); (exact .inr (Nat.le_trans ((g0.al (.cells #[] 77)).size_le) h)))); obtain ⟨a5, c5, rfl, _, _⟩ := s5.len; clear s5 f5 k5; obtain ⟨x0, x1⟩ := KP.out _ G5; obtain ⟨y0, y1⟩ := KP.out _ (G5.al (.cells #[.int .i64 i, .int .i64 1, .int .u64 a, .bool (a == n)] 77)); have fz := KZ.out _ G5)
      | ((with_reducible refine step_at (((w.alloc (.cells #[] 77)).alloc (.cells #[.int .i64 i, .int .i64 1, .int .u64 a, .bool (a == n)] 77)).drew) ?_); refine step_scA el70 (.tmp 36) (.tmp 40) (.slice (some ⟨w.heap.size, 0, none⟩) 0 0) (.slice al D.length cl) 0 D.length [] (encD D) ((w.drew.alloc (.cells #[] 77)).alloc (.cells #[.int .i64 i, .int .i64 1, .int .u64 a, .bool (a == n)] 77)) rfl rfl rfl rfl (SC.empty ((Blk.new w.drew 77 #[]).al _)) (HE.out.gr ((g0.al _).al _)) (by omega) (by omega) ?_; intro v5 w5 s5 k5 f5; rw [Nat.zero_add, List.nil_append] at s5; have E5 : Hid (SC 4 77 w5 (.slice (some ⟨w.heap.size + 1, 0, none⟩) 1 1) 1 #[.int .i64 i, .int .i64 1, .int .u64 a, .bool (a == n)].toList) := Lib.hid (SC.at1 ((Blk.new1 w.drew (.cells #[] 77) 77 #[.int .i64 i, .int .i64 1, .int .u64 a, .bool (a == n)]).ch k5 (by simp [sb])) rfl rfl); have G5 : Gr w w5 := ((g0.al (.cells #[] 77)).al (.cells #[.int .i64 i, .int .i64 1, .int .u64 a, .bool (a == n)] 77)).chs k5 (by simp [sb]); have S5 := Lib.hid (And.intro s5 (show Foot w [] (sb v5) from fun x hx => by rcases f5 x hx with h | h; (simp [sb] at h; exact .inr (by omega)); (exact .inr (Nat.le_trans (((g0.al (.cells #[] 77)).al (.cells #[.int .i64 i, .int .i64 1, .int .u64 a, .bool (a == n)] 77)).size_le) h)))); obtain ⟨a5, c5, rfl, _, _⟩ := s5.len; clear s5 f5 k5; obtain ⟨x0, x1⟩ := KP.out _ G5; obtain ⟨y0, y1⟩ := KP.out _ (G5.al (.cells #[.int .i64 i, .int .i64 1, .int .u64 a, .bool (a == n)] 77)); have fz := KZ.out _ G5)
      | ((with_reducible refine step_at (((w.alloc (.cells #[.int .i64 i, .int .i64 1, .int .u64 a, .bool (a == n)] 77)).alloc (.cells #[] 77)).drew) ?_); refine step_scA el70 (.tmp 36) (.tmp 40) (.slice (some ⟨w.heap.size + 1, 0, none⟩) 0 0) (.slice al D.length cl) 0 D.length [] (encD D) ((w.drew.alloc (.cells #[.int .i64 i, .int .i64 1, .int .u64 a, .bool (a == n)] 77)).alloc (.cells #[] 77)) rfl rfl rfl rfl (SC.empty (Blk.new1 w.drew (.cells #[.int .i64 i, .int .i64 1, .int .u64 a, .bool (a == n)] 77) 77 #[])) (HE.out.gr ((g0.al _).al _)) (by omega) (by omega) ?_; intro v5 w5 s5 k5 f5; rw [Nat.zero_add, List.nil_append] at s5; have E5 : Hid (SC 4 77 w5 (.slice (some ⟨w.heap.size, 0, none⟩) 1 1) 1 #[.int .i64 i, .int .i64 1, .int .u64 a, .bool (a == n)].toList) := Lib.hid (SC.at1 (((Blk.new w.drew 77 #[.int .i64 i, .int .i64 1, .int .u64 a, .bool (a == n)]).al (.cells #[] 77)).ch k5 (by simp [sb])) rfl rfl); have G5 : Gr w w5 := ((g0.al (.cells #[.int .i64 i, .int .i64 1, .int .u64 a, .bool (a == n)] 77)).al (.cells #[] 77)).chs k5 (by simp [sb]); have S5 := Lib.hid (And.intro s5 (show Foot w [] (sb v5) from fun x hx => by rcases f5 x hx with h | h; (simp [sb] at h; exact .inr (by omega)); (exact .inr (Nat.le_trans (((g0.al (.cells #[.int .i64 i, .int .i64 1, .int .u64 a, .bool (a == n)] 77)).al (.cells #[] 77)).size_le) h)))); obtain ⟨a5, c5, rfl, _, _⟩ := s5.len; clear s5 f5 k5; obtain ⟨x0, x1⟩ := KP.out _ G5; obtain ⟨y0, y1⟩ := KP.out _ (G5.al (.cells #[.int .i64 i, .int .i64 1, .int .u64 a, .bool (a == n)] 77)); have fz := KZ.out _ G5)
      | ((with_reducible refine step_at (w5.alloc (.cells #[.int .i64 i, .int .i64 1, .int .u64 a, .bool (a == n)] 77)) ?_); refine step_scA el70 (.tmp 41) (.tmp 52) (.slice a5 D.length c5) _ D.length 1 (encD D) #[.int .i64 i, .int .i64 1, .int .u64 a, .bool (a == n)].toList (w5.alloc (.cells #[.int .i64 i, .int .i64 1, .int .u64 a, .bool (a == n)] 77)) rfl rfl rfl rfl (S5.out.1.gr ((Gr.refl _).al _)) (SC.one w5 #[.int .i64 i, .int .i64 1, .int .u64 a, .bool (a == n)] rfl rfl) (by omega) (by omega) ?_; intro v6 w6 s6 k6 f6; have G6 : Gr w w6 := (G5.al _).new k6 S5.out.2; have S6 := Lib.hid (And.intro s6 (S5.out.2.tr f6 (G5.al _).size_le)); obtain ⟨a6, c6, rfl, _, _⟩ := s6.len; clear s6 f6 k6; obtain ⟨z0, z1⟩ := KP.out _ G6; have fz := KZ.out _ G6)
      | (refine step_scA el70 (.tmp 41) (.tmp 52) (.slice a5 D.length c5) _ D.length 1 (encD D) _ w5 rfl rfl rfl rfl S5.out.1 E5.out (by omega) (by omega) ?_; intro v6 w6 s6 k6 f6; have G6 : Gr w w6 := G5.new k6 S5.out.2; have S6 := Lib.hid (And.intro s6 (S5.out.2.tr f6 G5.size_le)); obtain ⟨a6, c6, rfl, _, _⟩ := s6.len; clear s6 f6 k6; obtain ⟨z0, z1⟩ := KP.out _ G6; have fz := KZ.out _ G6))
    all_goals
      have fz := KZ.out _ G6
      go_wp2_with fail
      go_ret2
      exact HF.out _ _ G6 (by simpa using S6.out.1) S6.out.2
  · go_enter Try.func58, Try.ntmps58
    go_upto_region 10 with (first
      | (go_at_call 33; refine (CI.out).mono ?_; rintro e w1 ⟨rfl, rfl⟩)
      | (go_at_call 65; refine (CA.out).mono ?_; rintro e w1 ⟨rfl, rfl⟩))
    have g0 : Gr w w.drew := (Gr.refl w).drew
    have KP := Lib.hid (fun (w' : World) (g : Gr w w') => (show w'.cell? ⟨r, 0, none⟩ = some (.int .u64 n) ∧ w'.cell? ⟨r, 1, none⟩ = some (.slice al D.length cl) from ⟨g.cell_some c0, g.cell_some c1⟩))
    have KZ := Lib.hid (fun (w' : World) (g : Gr w w') => (HM.out.hdr.gr g).frozen)
    go_region_law (first
      | ((with_reducible refine step_at ((w.alloc (.cells #[] 77)).drew) ?_); refine step_scA el70 (.tmp 36) (.tmp 40) (.slice (some ⟨w.heap.size, 0, none⟩) 0 0) (.slice al D.length cl) 0 D.length [] (encD D) (w.drew.alloc (.cells #[] 77)) rfl rfl rfl rfl (SC.empty (Blk.new w.drew 77 #[])) (HE.out.gr (g0.al _)) (by omega) (by omega) ?_; intro v5 w5 s5 k5 f5; rw [Nat.zero_add, List.nil_append] at s5; have G5 : Gr w w5 := (g0.al (.cells #[] 77)).chs k5 (by simp [sb]); have S5 := Lib.hid (And.intro s5 (show Foot w [] (sb v5) from fun x hx => by rcases f5 x hx with h | h; (simp [sb] at h; exact .inr (by omega)); (exact .inr (Nat.le_trans ((g0.al (.cells #[] 77)).size_le) h)))); obtain ⟨a5, c5, rfl, _, _⟩ := s5.len; clear s5 f5 k5; obtain ⟨x0, x1⟩ := KP.out _ G5; obtain ⟨y0, y1⟩ := KP.out _ (G5.al (.cells #[.int .i64 i, .int .i64 2, .int .u64 a, .bool (a == n)] 77)); have fz := KZ.out _ G5)
      | ((with_reducible refine step_at (((w.alloc (.cells #[] 77)).alloc (.cells #[.int .i64 i, .int .i64 2, .int .u64 a, .bool (a == n)] 77)).drew) ?_); refine step_scA el70 (.tmp 36) (.tmp 40) (.slice (some ⟨w.heap.size, 0, none⟩) 0 0) (.slice al D.length cl) 0 D.length [] (encD D) ((w.drew.alloc (.cells #[] 77)).alloc (.cells #[.int .i64 i, .int .i64 2, .int .u64 a, .bool (a == n)] 77)) rfl rfl rfl rfl (SC.empty ((Blk.new w.drew 77 #[]).al _)) (HE.out.gr ((g0.al _).al _)) (by omega) (by omega) ?_; intro v5 w5 s5 k5 f5; rw [Nat.zero_add, List.nil_append] at s5; have E5 : Hid (SC 4 77 w5 (.slice (some ⟨w.heap.size + 1, 0, none⟩) 1 1) 1 #[.int .i64 i, .int .i64 2, .int .u64 a, .bool (a == n)].toList) := Lib.hid (SC.at1 ((Blk.new1 w.drew (.cells #[] 77) 77 #[.int .i64 i, .int .i64 2, .int .u64 a, .bool (a == n)]).ch k5 (by simp [sb])) rfl rfl); have G5 : Gr w w5 := ((g0.al (.cells #[] 77)).al (.cells #[.int .i64 i, .int .i64 2, .int .u64 a, .bool (a == n)] 77)).chs k5 (by simp [sb]); have S5 := Lib.hid (And.intro s5 (show Foot w [] (sb v5) from fun x hx => by rcases f5 x hx with h | h; (simp [sb] at h; exact .inr (by omega)); (exact .inr (Nat.le_trans (((g0.al (.cells #[] 77)).al (.cells #[.int .i64 i, .int .i64 2, .int .u64 a, .bool (a == n)] 77)).size_le) h)))); obtain ⟨a5, c5, rfl, _, _⟩ := s5.len; clear s5 f5 k5; obtain ⟨x0, x1⟩ := KP.out _ G5; obtain ⟨y0, y1⟩ := KP.out _ (G5.al (.cells #[.int .i64 i, .int .i64 2, .int .u64 a, .bool (a == n)] 77)); have fz := KZ.out _ G5)
      | ((with_reducible refine step_at (((w.alloc (.cells #[.int .i64 i, .int .i64 2, .int .u64 a, .bool (a == n)] 77)).alloc (.cells #[] 77)).drew) ?_); refine step_scA el70 (.tmp 36) (.tmp 40) (.slice (some ⟨w.heap.size + 1, 0, none⟩) 0 0) (.slice al D.length cl) 0 D.length [] (encD D) ((w.drew.alloc (.cells #[.int .i64 i, .int .i64 2, .int .u64 a, .bool (a == n)] 77)).alloc (.cells #[] 77)) rfl rfl rfl rfl (SC.empty (Blk.new1 w.drew (.cells #[.int .i64 i, .int .i64 2, .int .u64 a, .bool (a == n)] 77) 77 #[])) (HE.out.gr ((g0.al _).al _)) (by omega) (by omega) ?_; intro v5 w5 s5 k5 f5; rw [Nat.zero_add, List.nil_append] at s5; have E5 : Hid (SC 4 77 w5 (.slice (some ⟨w.heap.size, 0, none⟩) 1 1) 1 #[.int .i64 i, .int .i64 2, .int .u64 a, .bool (a == n)].toList) := Lib.hid (SC.at1 (((Blk.new w.drew 77 #[.int .i64 i, .int .i64 2, .int .u64 a, .bool (a == n)]).al (.cells #[] 77)).ch k5 (by simp [sb])) rfl rfl); have G5 : Gr w w5 := ((g0.al (.cells #[.int .i64 i, .int .i64 2, .int .u64 a, .bool (a == n)] 77)).al (.cells #[] 77)).chs k5 (by simp [sb]); have S5 := Lib.hid (And.intro s5 (show Foot w [] (sb v5) from fun x hx => by rcases f5 x hx with h | h; (simp [sb] at h; exact .inr (by omega)); (exact .inr (Nat.le_trans (((g0.al (.cells #[.int .i64 i, .int .i64 2, .int .u64 a, .bool (a == n)] 77)).al (.cells #[] 77)).size_le) h)))); obtain ⟨a5, c5, rfl, _, _⟩ := s5.len; clear s5 f5 k5; obtain ⟨x0, x1⟩ := KP.out _ G5; obtain ⟨y0, y1⟩ := KP.out _ (G5.al (.cells #[.int .i64 i, .int .i64 2, .int .u64 a, .bool (a == n)] 77)); have fz := KZ.out _ G5)
      | ((with_reducible refine step_at (w5.alloc (.cells #[.int .i64 i, .int .i64 2, .int .u64 a, .bool (a == n)] 77)) ?_); refine step_scA el70 (.tmp 41) (.tmp 52) (.slice a5 D.length c5) _ D.length 1 (encD D) #[.int .i64 i, .int .i64 2, .int .u64 a, .bool (a == n)].toList (w5.alloc (.cells #[.int .i64 i, .int .i64 2, .int .u64 a, .bool (a == n)] 77)) rfl rfl rfl rfl (S5.out.1.gr ((Gr.refl _).al _)) (SC.one w5 #[.int .i64 i, .int .i64 2, .int .u64 a, .bool (a == n)] rfl rfl) (by omega) (by omega) ?_; intro v6 w6 s6 k6 f6; have G6 : Gr w w6 := (G5.al _).new k6 S5.out.2; have S6 := Lib.hid (And.intro s6 (S5.out.2.tr f6 (G5.al _).size_le)); obtain ⟨a6, c6, rfl, _, _⟩ := s6.len; clear s6 f6 k6; obtain ⟨z0, z1⟩ := KP.out _ G6; have fz := KZ.out _ G6)
      | (refine step_scA el70 (.tmp 41) (.tmp 52) (.slice a5 D.length c5) _ D.length 1 (encD D) _ w5 rfl rfl rfl rfl S5.out.1 E5.out (by omega) (by omega) ?_; intro v6 w6 s6 k6 f6; have G6 : Gr w w6 := G5.new k6 S5.out.2; have S6 := Lib.hid (And.intro s6 (S5.out.2.tr f6 G5.size_le)); obtain ⟨a6, c6, rfl, _, _⟩ := s6.len; clear s6 f6 k6; obtain ⟨z0, z1⟩ := KP.out _ G6; have fz := KZ.out _ G6))
    all_goals
      have fz := KZ.out _ G6
      go_wp2_with fail
      go_ret2
      exact HF.out _ _ G6 (by simpa using S6.out.1) S6.out.2
set_option maxRecDepth 100000 in
set_option maxHeartbeats 1000000 in
theorem dbegin (r : Nat) (s : TS) (K : Nat → Int) (D : List NE) (v : Value) (p k t : Int) (w : World) (m : ND w r s.now D v) (h : NR s K D) (ht : 0 ≤ t ∧ t ≤ 18446744073709551615) :
    Calls Try.prog 58 #[.pointer (some ⟨r, 0, none⟩), .int .i64 p, .int .i64 k, .int .u64 t] w (DBeg r s.now (begD s K D p k t) v (begV K p k t) w) := by
  by_cases hp : 0 ≤ p ∧ p < 64
  · obtain ⟨i, rfl⟩ := Int.eq_ofNat_of_zero_le hp.1
    have hi : i < 64 := by omega
    by_cases hk : k = 1 ∨ k = 2
    · have CI := Lib.hid (dat r s.now D v i w m h.le64)
      by_cases h0 : K i = 0
      · by_cases h1 : t = 0
        · subst h1
          have hok : begOk K i k 0 = false := begOk_at0 K hi h0 hk
          have HV := Lib.hid (show begV K i k 0 = .tuple #[.bool false, .int .i64 0] by unfold begV begE; rw [hok, if_pos hp, if_pos hk, kdS_at K hi, if_pos h0])
          rw [show begD s K D i k 0 = D by unfold begD; rw [hok]; rfl, HV.out]
          have i1 : decide ((63 : Int) < (i : Int)) = false := by simp; omega
          have CJ : Hid (Calls Try.prog 33 #[.pointer (some ⟨r, 0, none⟩), .int .i64 i] w fun e w' => e = .returned (.int .i64 (-1)) ∧ w = w') := Lib.hid (CI.out.mono fun e w' ⟨k, he, hat, hw⟩ => by
            rcases hat.neg h with ⟨_, rfl⟩ | ⟨h1, _⟩
            · exact ⟨he, hw⟩
            · rw [kdS_at K hi] at h1; exact absurd h0 h1)
          have HM := Lib.hid m
          clear m h hok h0 hp CI
          rcases hk with rfl | rfl
          all_goals
            go_enter Try.func58, Try.ntmps58
            go_wp2_with (go_at_call 33; refine (CJ.out).mono ?_; rintro e w1 ⟨rfl, rfl⟩)
            go_ret2
            exact DBeg.same HM.out (Gr.refl _)
        · have hok : begOk K i k t = true := by
            unfold begOk
            rw [show decide (0 ≤ (i : Int) ∧ (i : Int) < 64) = true by simpa using hp, show decide (k = 1 ∨ k = 2) = true by simpa using hk, kdS_at K hi, h0, show decide (t ≠ 0) = true by simpa using h1]
            rfl
          rw [show begD s K D i k t = D ++ [⟨i, k, addT s.now t, decide (addT s.now t = s.now)⟩] by unfold begD; rw [hok]; rfl, show begV K i k t = .tuple #[.bool true, .int .i64 0] by unfold begV begE; rw [hok, if_pos hp, if_pos hk, kdS_at K hi, if_pos h0]]
          exact dbeg_ok r s K D v i k t w m h hi hk h0 (by omega)
      · have hok : begOk K i k t = false := by unfold begOk; rw [kdS_at K hi]; simp [h0]
        have HV := Lib.hid (show begV K i k t = .tuple #[.bool false, .int .i64 6] by unfold begV begE; rw [hok, if_pos hp, if_pos hk, kdS_at K hi, if_neg h0])
        rw [show begD s K D i k t = D by unfold begD; rw [hok]; rfl, HV.out]
        have i1 : decide ((63 : Int) < (i : Int)) = false := by simp; omega
        have CJ : Hid (Calls Try.prog 33 #[.pointer (some ⟨r, 0, none⟩), .int .i64 i] w fun e w' => (∃ j : Nat, e = .returned (.int .i64 j)) ∧ w = w') := Lib.hid (CI.out.mono fun e w' ⟨k, he, hat, hw⟩ => by
          rcases hat.neg h with ⟨h1, rfl⟩ | ⟨h1, j, x, rfl, _⟩
          · rw [kdS_at K hi] at h1; exact absurd h1 h0
          · exact ⟨⟨j, he⟩, hw⟩)
        have HM := Lib.hid m
        clear m h hok h0 hp CI
        rcases hk with rfl | rfl
        all_goals
          go_enter Try.func58, Try.ntmps58
          go_wp2_with (go_at_call 33; refine (CJ.out).mono ?_; rintro e w1 ⟨⟨j, rfl⟩, rfl⟩)
          go_ret2
          exact DBeg.same HM.out (Gr.refl _)
    · have hok : begOk K i k t = false := by unfold begOk; rw [show decide (k = 1 ∨ k = 2) = false by simpa using hk]; simp
      have HV := Lib.hid (show begV K i k t = .tuple #[.bool false, .int .i64 1] by unfold begV begE; rw [hok, if_pos hp, if_neg hk])
      rw [show begD s K D i k t = D by unfold begD; rw [hok]; rfl, HV.out]
      have e1 : (k != 1) = true := by simp; omega
      have e2 : (k != 2) = true := by simp; omega
      have i1 : decide ((63 : Int) < (i : Int)) = false := by simp; omega
      have HM := Lib.hid m
      clear m h hp hok hk
      go_enter Try.func58, Try.ntmps58
      go_wp2_with fail
      go_ret2
      exact DBeg.same HM.out (Gr.refl _)
  · have hok : begOk K p k t = false := by unfold begOk; rw [show decide (0 ≤ p ∧ p < 64) = false by simpa using hp]; simp
    have HV := Lib.hid (show begV K p k t = .tuple #[.bool false, .int .i64 5] by unfold begV begE; rw [hok, if_neg hp])
    rw [show begD s K D p k t = D by unfold begD; rw [hok]; rfl, HV.out]
    have hc : p < 0 ∨ (0 ≤ p ∧ 63 < p) := by omega
    have HM := Lib.hid m
    clear m h hp hok
    rcases hc with hc | ⟨hc, hc2⟩
    · have d1 : decide (p < 0) = true := by simpa using hc
      go_enter Try.func58, Try.ntmps58
      go_wp2_with fail
      go_ret2
      exact DBeg.same HM.out (Gr.refl _)
    · have d1 : decide (p < 0) = false := by simpa using hc
      have d2 : decide (63 < p) = true := by simpa using hc2
      go_enter Try.func58, Try.ntmps58
      go_wp2_with fail
      go_ret2
      exact DBeg.same HM.out (Gr.refl _)
end Go.Proofs.Ytbeoomjcipbjjaa
