/- Chapter 25 (gift): due, and the function values of the program's walks. -/
import Derived.Test.YtkkobbomipcpoaaGiI
namespace Go.Proofs.Ytkkobbomipcpoaa
open Go.RowKit
set_option linter.unusedVariables false
set_option maxHeartbeats 2000000
set_option maxRecDepth 100000 in
theorem gdue (gv : Value) (L W O : List Int) (ev : Value) (f : Nat → Int) (t : Nat) (w : World) (h : GV w gv L W O) (he : Rd w ev (lst (clean L W O).n f)) (ht : t < (clean L W O).n) : Calls Try.prog 91 #[gv, ev, .int .i64 t] w fun e w' => e = .returned (.int .i64 (dueN (clean L W O) f t (clean L W O).n)) ∧ Gr w w' := by
  have HG := Lib.hid h
  have HE := Lib.hid he
  obtain ⟨vl, vw, vo, rfl, ⟨al, cl, rfl, hl1, hl2, hl⟩, ⟨aw, cw, rfl, hw1, hw2, hw⟩, ⟨ao, co, rfl, ho1, ho2, ho⟩⟩ := h
  obtain ⟨ae, ce, rfl, he1, he2⟩ := he.hd'
  clear hl hw ho he
  have hn64 := (clean_ok L W O).n64
  have hB := Blk.new w 25 #[.slice al L.length cl, .slice aw W.length cw, .slice ao O.length co]
  have g1 := (Gr.refl w).al (.cells #[.slice al L.length cl, .slice aw W.length cw, .slice ao O.length co] 25)
  have CT := Lib.hid (fun w' (g' : Gr w w') => gthreads _ L W O w' (HG.out.gr g'))
  have CL := Lib.hid (fun w' (g' : Gr w w') => glevel _ L W O t w' (HG.out.gr g') ht)
  have CN := Lib.hid (fun (i : Nat) w' (g' : Gr w w') (hi : i < (clean L W O).n) => gnext _ L W O i w' (HG.out.gr g') hi)
  have HD := Lib.hid (show ∀ k, dueN (clean L W O) f t (k + 1) = if (clean L W O).next k = t then min (dueN (clean L W O) f t k) (f k) else dueN (clean L W O) f t k from fun _ => rfl)
  have HD0 := Lib.hid (show dueN (clean L W O) f t 0 = (clean L W O).lev t from rfl)
  obtain ⟨s, hs⟩ : ∃ s, clean L W O = s := ⟨_, rfl⟩
  rw [hs] at CT CL CN HD HD0 HE hn64 ht he1 ⊢
  clear hs
  go_enter Try.func91, Try.ntmps91
  go_upto_region 1 with fail
  generalize w.alloc (.cells #[.slice al L.length cl, .slice aw W.length cw, .slice ao O.length co] 25) = W1 at *
  generalize w.heap.size = X at *
  obtain ⟨x0, x1, x2, xf⟩ := hB.c3
  go_wp2_with (first
    | (go_at_call 69; refine (CL.out _ g1).mono ?_; rintro e w2 ⟨rfl, g2⟩; obtain ⟨y0, y1, y2, yf⟩ := (hB.gr g2).c3)
    | (go_at_call 68; refine (CT.out _ (g1.tr g2)).mono ?_; rintro e w3 ⟨rfl, g3⟩))
  have HI := Lib.hid (And.intro ((g1.tr g2).tr g3) ((hB.gr g2).gr g3))
  clear x0 x1 x2 xf y0 y1 y2 yf g1 g2 g3 hB
  go_loopw [7, 14] (fun b i wr => ∃ k : Nat, k ≤ s.n ∧ i = .int .i64 k ∧ b = .int .i64 (dueN s f t k) ∧ Gr w wr ∧ Blk wr X 25 #[.slice al L.length cl, .slice aw W.length cw, .slice ao O.length co]) (fun _ i _ => s.n - (intOf i).toNat)
  case atStart => exact ⟨0, by omega, rfl, by rw [HD0.out], HI.out⟩
  case round =>
    clear HI
    obtain ⟨k, hk, rfl, rfl, gr, hXb⟩ := hrel
    by_cases hlt : k < s.n
    · have hd : decide ((k : Int) < (s.n : Int)) = true := by simpa using hlt
      obtain ⟨x0, x1, x2, xf⟩ := hXb.c3
      have C := Lib.hid (CN.out k wr gr hlt)
      have HK := Lib.hid (HD.out k)
      by_cases hn : s.next k = t
      · rw [hn] at C
        have HK2 := Lib.hid (show dueN s f t (k + 1) = min (dueN s f t k) (f k) by rw [HK.out, if_pos hn])
        obtain ⟨be, oe, ce', hve, _, _, ec0⟩ := HE.out.at' hlt
        cases hve
        generalize f k = z at *
        generalize dueN s f t k = bb at *
        have i1 : (0 : Int) ≤ (k : Int) := by omega
        have i2 : (k : Int) < (s.n : Int) := by omega
        have htt : ((t : Int) == (t : Int)) = true := by simp
        clear hn HK
        by_cases hm : z < bb
        · go_wp2_with (first
            | (go_at_call 111; refine (C.out).mono ?_; rintro e w4 ⟨rfl, g4⟩; have ec := (gr.tr g4).cell_some ec0))
          go_roundw
          case rel => exact ⟨k + 1, by omega, by go_num, by rw [HK2.out]; exact congrArg _ (by omega), gr.tr g4, hXb.gr g4⟩
          case measure => simp [intOf]; omega
        · go_wp2_with (first
            | (go_at_call 111; refine (C.out).mono ?_; rintro e w4 ⟨rfl, g4⟩; have ec := (gr.tr g4).cell_some ec0))
          go_roundw
          case rel => exact ⟨k + 1, by omega, by go_num, by rw [HK2.out]; exact congrArg _ (by omega), gr.tr g4, hXb.gr g4⟩
          case measure => simp [intOf]; omega
      · have HK2 := Lib.hid (show dueN s f t (k + 1) = dueN s f t k by rw [HK.out, if_neg hn])
        have hb : (s.next k == (t : Int)) = false := by simpa using hn
        clear hn HK
        generalize dueN s f t k = bb at *
        go_wp2_with (go_at_call 111; refine (C.out).mono ?_; rintro e w4 ⟨rfl, g4⟩)
        go_roundw
        case rel => exact ⟨k + 1, by omega, by go_num, by rw [HK2.out], gr.tr g4, hXb.gr g4⟩
        case measure => simp [intOf]; omega
    · have hks : s.n = k := by omega
      have hd : decide ((k : Int) < (s.n : Int)) = false := by simp; omega
      have HK := Lib.hid (show dueN s f t s.n = dueN s f t k by rw [hks])
      clear hks
      go_wp2_with fail
      go_ret
      exact ⟨by rw [HK.out]; rfl, gr⟩
/-- The two variables of a walk: the levels, and who was met. -/
structure OM (w : World) (B O1 MT : Nat) (v v2 : Value) (n : Nat) (f : Nat → Int) (zs : List Int) : Prop where
  out : VarAt w O1 v (lst n f)
  met : VarAt w MT v2 zs
  dj : Disj (sb v) (sb v2)
  ne : O1 ≠ MT
  b1 : ∀ x ∈ O1 :: MT :: (sb v ++ sb v2), B ≤ x
theorem OM.gr {w w' : World} {B O1 MT : Nat} {v v2 : Value} {n : Nat} {f : Nat → Int} {zs : List Int} (h : OM w B O1 MT v v2 n f zs) (g : Gr w w') : OM w' B O1 MT v v2 n f zs := ⟨h.out.gr g, h.met.gr g, h.dj, h.ne, h.b1⟩
/-- One level is set, and one thread more is met. -/
theorem OM.step {w w1 w5 : World} {B O1 MT b off cp n i : Nat} {v2 v5 : Value} {f : Nat → Int} {zs zs' : List Int} {x : Int} (h : OM w B O1 MT (.slice (some ⟨b, off, none⟩) n cp) v2 n f zs) (hi : i < n) (hB : B ≤ w.heap.size)
    (e1 : w1 = w.setCell ⟨b, off + i, none⟩ (.int .i64 x)) (hv5 : Sl 3 .i64 w5 v5 zs') (ch5 : Ch (sb v2) w1 w5) (hf5 : Foot w1 (sb v2) (sb v5)) :
    OM (w5.setCell ⟨MT, 0, none⟩ v5) B O1 MT (.slice (some ⟨b, off, none⟩) n cp) v5 n (upd f i x) zs' ∧ Ch (MT :: b :: sb v2) w (w5.setCell ⟨MT, 0, none⟩ v5) := by
  subst e1
  have hbv : b ∈ sb (.slice (some ⟨b, off, none⟩) n cp) := by simp [sb]
  have k1 : Ch [b] w (w.setCell ⟨b, off + i, none⟩ (.int .i64 x)) := (Ch.refl _ _).st (by simp) _
  have h0 := h.out.2
  rw [show (Value.slice (some ⟨b, off, none⟩) n cp) = .slice (some ⟨b, off, none⟩) (lst n f).length cp by rw [lst_length]] at h0
  have s1 := h0.st i (by rw [lst_length]; exact hi) x
  rw [lst_set, lst_length] at s1
  have nO : O1 ≠ b := fun e => h.out.2.ne h.out.1 (by decide) (e ▸ hbv)
  have nM : MT ≠ b := fun e => h.out.2.ne h.met.1 (by decide) (e ▸ hbv)
  have o1 := h.out.1.ch k1 (by simpa using nO)
  have m1 := h.met.1.ch k1 (by simpa using nM)
  have hMs := h.met.2.ne h.met.1 (by decide)
  have hOs : O1 ∉ sb v2 := h.met.2.ne h.out.1 (by decide)
  have m5 := m1.ch ch5 hMs
  have k5 : Ch [MT] w5 (w5.setCell ⟨MT, 0, none⟩ v5) := (Ch.refl _ _).st (by simp) _
  have s5 := s1.ch ch5 (fun y hy hm => h.dj y hy hm)
  have hMv : MT ∉ sb (.slice (some ⟨b, off, none⟩) n cp) := by simp [sb]; exact nM
  refine ⟨⟨⟨(o1.ch ch5 hOs).ch k5 (by simpa using h.ne), s5.ch k5 (fun y hy hm => by simp at hm; subst hm; exact hMv hy)⟩, VarAt.app m1 hMs hv5 ch5, fun y hy hm => ?_, h.ne, fun y hy => ?_⟩, ?_⟩
  · rcases hf5 y hm with hm | hm
    · exact h.dj y hy hm
    · simp [sb] at hy
      subst hy
      have := k1.size
      have := h.out.2.inn y hbv
      omega
  · simp only [List.mem_cons, List.mem_append] at hy
    rcases hy with rfl | rfl | hy | hy
    · exact h.b1 _ (by simp)
    · exact h.b1 _ (by simp)
    · exact h.b1 y (by simp [hy])
    · rcases hf5 y hy with hy | hy
      · exact h.b1 y (by simp [hy])
      · have := k1.size; omega
  · refine Ch.st (Ch.tr (k1.wide (by simp)) ch5 (fun y hy => .inl (by simp [hy]))) (p := ⟨MT, 0, none⟩) (.inl (by simp)) _
set_option maxRecDepth 100000 in
theorem bet_no (i : Nat) (g : Int) (B GN O1 MT : Nat) (v v2 : Value) (n : Nat) (f : Nat → Int) (zs : List Int) (w : World) (h : OM w B O1 MT v v2 n f zs) (hG : Blk w GN 3 #[.int .i64 g]) (hi : i < n) (hn : n ≤ 64) (hp : ¬ g < f i) :
    Calls Try.prog 87 #[.int .i64 i, .pointer (some ⟨GN, 0, none⟩), .pointer (some ⟨O1, 0, none⟩), .pointer (some ⟨MT, 0, none⟩)] w fun e w' => e = .returned (.bool false) ∧ Gr w w' := by
  obtain ⟨b, off, cp, rfl, h1, h2, hc, hf⟩ := h.out.2.at hi
  obtain ⟨o1, _⟩ := h.out.1.c1
  obtain ⟨l1, _⟩ := hG.c1
  have i1 : (0 : Int) ≤ (i : Int) := by omega
  have i2 : (i : Int) < (n : Int) := by omega
  generalize f i = y at *
  have t1 : decide (y ≤ g) = true := by simp; omega
  clear h hG
  go_enter Try.func87, Try.ntmps87
  go_wp2_with fail
  go_quiet (fail)
  go_wp2_with fail
  go_ret
  exact ⟨rfl, (Gr.refl _).drewN _⟩
set_option maxRecDepth 100000 in
theorem bet_yes (i : Nat) (g : Int) (B GN O1 MT : Nat) (v v2 : Value) (n : Nat) (f : Nat → Int) (zs : List Int) (w : World) (h : OM w B O1 MT v v2 n f zs) (hG : Blk w GN 3 #[.int .i64 g]) (hGs : GN ∉ sb v) (hGs2 : GN ∉ sb v2) (hi : i < n) (hn : n ≤ 64) (hl : zs.length < 1000) (hB : B ≤ w.heap.size) (hp : g < f i) :
    Calls Try.prog 87 #[.int .i64 i, .pointer (some ⟨GN, 0, none⟩), .pointer (some ⟨O1, 0, none⟩), .pointer (some ⟨MT, 0, none⟩)] w fun e w' => e = .returned (.bool true) ∧ ∃ v2', OM w' B O1 MT v v2' n (upd f i g) (zs ++ [(i : Int)]) ∧ Ch (MT :: (sb v ++ sb v2)) w w' ∧ Foot w (sb v2) (sb v2') := by
  obtain ⟨b, off, cp, rfl, h1, h2, hc, hf⟩ := h.out.2.at hi
  have HO := Lib.hid h
  obtain ⟨o1, _⟩ := h.out.1.c1
  obtain ⟨l1, _⟩ := hG.c1
  obtain ⟨m1, mf⟩ := h.met.1.c1
  have i1 : (0 : Int) ≤ (i : Int) := by omega
  have i2 : (i : Int) < (n : Int) := by omega
  have nO : O1 ≠ b := fun e => h.out.2.ne h.out.1 (by decide) (by simp [sb, e])
  have nM : MT ≠ b := fun e => h.out.2.ne h.met.1 (by decide) (by simp [sb, e])
  have nG : GN ≠ b := by simpa [sb] using hGs
  have HF := Lib.hid (show ∃ y, f i = y from ⟨_, rfl⟩)
  obtain ⟨y, hy⟩ := HF.out
  rw [hy] at hc hp
  have t1 : decide (y ≤ g) = false := by simp; omega
  have k1 : Ch [b] w (w.setCell ⟨b, off + i, none⟩ (.int .i64 g)) := (Ch.refl _ _).st (by simp) _
  have hm2 : Sl 3 .i64 (w.setCell ⟨b, off + i, none⟩ (.int .i64 g)) v2 zs := h.met.2.ch k1 (fun z hz hm => by simp at hm; subst hm; exact h.dj z (by simp [sb]) hz)
  have mm := h.met.1.ch k1 (by simpa using nM)
  have hMs := h.met.2.ne h.met.1 (by decide)
  have K1 := Lib.hid k1
  clear h hG hy k1
  go_enter Try.func87, Try.ntmps87
  go_wp2_with fail
  go_quiet (fail)
  go_upto_region 4 with fail
  have HO2 := Lib.hid (HO.out.gr ((Gr.refl w).drewN nq))
  replace hm2 : Sl 3 .i64 ((w.drewN nq).setCell ⟨b, off + i, none⟩ (.int .i64 g)) v2 zs := hm2
  replace mm : Blk ((w.drewN nq).setCell ⟨b, off + i, none⟩ (.int .i64 g)) MT 22 #[v2] := mm
  obtain ⟨W1, hW1⟩ : ∃ W1, W1 = (w.drewN nq).setCell ⟨b, off + i, none⟩ (.int .i64 g) := ⟨_, rfl⟩
  rw [← hW1] at hm2 mm ⊢
  have HW := Lib.hid hW1
  clear hW1
  obtain ⟨m2, mf2⟩ := mm.c1
  have HMM := Lib.hid mm
  clear mm
  go_wp2_with (at_builtin; refine wpList_sl1 el22 .i64 (.tmp 16) (.tmp 18) _ _ _ _ _ rfl rfl rfl rfl hm2 ?_ ?_ ?_)
  · omega
  · omega
  intro v' w' hv' hch hf'
  obtain ⟨d1, d2⟩ := (HMM.out.ch hch hMs).c1
  have HST := Lib.hid (And.intro (OM.step HO2.out hi hB HW.out hv' hch hf') hf')
  obtain ⟨a', cp', rfl, _, _⟩ := hv'.len
  clear m2 mf2 hv' hch hf'
  go_wp2_with fail
  go_ret
  have hlen : (zs ++ [(i : Int)]).length = zs.length + 1 := by simp
  obtain ⟨⟨k1, k2⟩, k3⟩ := HST.out
  rw [hlen] at k1 k2 k3
  refine ⟨rfl, _, k1, ?_, fun x hx => ?_⟩
  · have : Ch (MT :: (sb (.slice (some ⟨b, off, none⟩) n cp) ++ sb v2)) w (w.drewN nq) := (Ch.refl _ _).drewN nq
    exact this.tr k2 (fun x hx => .inl (by simp [sb] at hx ⊢; exact hx))
  · rcases k3 x hx with h | h
    · exact .inl h
    · have : (w.drewN nq).heap.size = w.heap.size := rfl
      have hs : W1.heap.size = w.heap.size := by rw [HW.out]; simp [World.setCell]
      exact .inr (by omega)
set_option maxRecDepth 100000 in
theorem wor_no (L W O : List Int) (al aw ao : Option Addr) (cl cw co : Nat) (i : Nat) (B GB O1 MT : Nat) (v v2 : Value) (f : Nat → Int) (zs : List Int) (w : World) (hg : GV w (.agg #[.slice al L.length cl, .slice aw W.length cw, .slice ao O.length co]) L W O) (h : OM w B O1 MT v v2 (clean L W O).n f zs) (hG : Blk w GB 25 #[.slice al L.length cl, .slice aw W.length cw, .slice ao O.length co]) (hi : i < (clean L W O).n)
    (hp : worP (clean L W O) f i = false) : Calls Try.prog 90 #[.int .i64 i, .pointer (some ⟨GB, 0, none⟩), .pointer (some ⟨O1, 0, none⟩), .pointer (some ⟨MT, 0, none⟩)] w fun e w' => e = .returned (.bool false) ∧ Gr w w' := by
  have C := Lib.hid (gdue _ L W O v f i w hg h.out.2.rd hi)
  obtain ⟨b, off, cp, rfl, h1, h2, hc, hf⟩ := h.out.2.at hi
  obtain ⟨o1, _⟩ := h.out.1.c1
  obtain ⟨x0, x1, x2, xf⟩ := hG.c3
  have hn64 := (clean_ok L W O).n64
  have i1 : (0 : Int) ≤ (i : Int) := by omega
  have i2 : (i : Int) < ((clean L W O).n : Int) := by omega
  have hd : dueN (clean L W O) f i (clean L W O).n = f i := by unfold worP at hp; simpa using hp
  rw [hd] at C
  have HB := Lib.hid (And.intro h.out.1 hc)
  clear h hG hd hp hc
  generalize (clean L W O).n = n at *
  generalize f i = y at *
  have hyy : (y == y) = true := by simp
  go_enter Try.func90, Try.ntmps90
  go_wp2_with (go_at_call 91; refine (C.out).mono ?_; rintro e w1 ⟨rfl, g1⟩; obtain ⟨p1, _⟩ := (HB.out.1.gr g1).c1; have p2 := g1.cell_some HB.out.2)
  go_ret
  exact ⟨rfl, g1⟩
set_option maxRecDepth 100000 in
theorem wor_yes (L W O : List Int) (al aw ao : Option Addr) (cl cw co : Nat) (i : Nat) (B GB O1 MT : Nat) (v v2 : Value) (f : Nat → Int) (zs : List Int) (w : World) (hg : GV w (.agg #[.slice al L.length cl, .slice aw W.length cw, .slice ao O.length co]) L W O) (h : OM w B O1 MT v v2 (clean L W O).n f zs) (hG : Blk w GB 25 #[.slice al L.length cl, .slice aw W.length cw, .slice ao O.length co]) (hi : i < (clean L W O).n) (hl : zs.length < 1000) (hB : B ≤ w.heap.size)
    (hp : worP (clean L W O) f i = true) : Calls Try.prog 90 #[.int .i64 i, .pointer (some ⟨GB, 0, none⟩), .pointer (some ⟨O1, 0, none⟩), .pointer (some ⟨MT, 0, none⟩)] w fun e w' => e = .returned (.bool true) ∧ ∃ v2', OM w' B O1 MT v v2' (clean L W O).n (upd f i (dueN (clean L W O) f i (clean L W O).n)) (zs ++ [(i : Int)]) ∧ Ch (MT :: (sb v ++ sb v2)) w w' ∧ Foot w (sb v2) (sb v2') := by
  have C := Lib.hid (gdue _ L W O v f i w hg h.out.2.rd hi)
  obtain ⟨b, off, cp, rfl, h1, h2, hc, hf⟩ := h.out.2.at hi
  have HO := Lib.hid h
  obtain ⟨o1, _⟩ := h.out.1.c1
  obtain ⟨x0, x1, x2, xf⟩ := hG.c3
  have hn64 := (clean_ok L W O).n64
  have i1 : (0 : Int) ≤ (i : Int) := by omega
  have i2 : (i : Int) < ((clean L W O).n : Int) := by omega
  have nO : O1 ≠ b := fun e => h.out.2.ne h.out.1 (by decide) (by simp [sb, e])
  have nM : MT ≠ b := fun e => h.out.2.ne h.met.1 (by decide) (by simp [sb, e])
  have hMs := h.met.2.ne h.met.1 (by decide)
  have hd : dueN (clean L W O) f i (clean L W O).n ≠ f i := by unfold worP at hp; simpa using hp
  have HC := Lib.hid hc
  clear h hG hp hc
  obtain ⟨g, hgd⟩ : ∃ g, dueN (clean L W O) f i (clean L W O).n = g := ⟨_, rfl⟩
  rw [hgd] at C hd ⊢
  clear hgd
  generalize (clean L W O).n = n at *
  obtain ⟨y, hy⟩ : ∃ y, f i = y := ⟨_, rfl⟩
  rw [hy] at HC hd
  clear hy
  have hyy : (g == y) = false := by simpa using hd
  go_enter Try.func90, Try.ntmps90
  go_upto_region 5 with (go_at_call 91; refine (C.out).mono ?_; rintro e w1 ⟨rfl, g1⟩; obtain ⟨p1, _⟩ := (HO.out.out.1.gr g1).c1; have p2 := g1.cell_some HC.out; have p3 := (HO.out.out.2.gr g1).at hi; obtain ⟨b', off', cp', hve, _, _, _, hf1⟩ := p3; cases hve)
  have k1 : Ch [b] w1 (w1.setCell ⟨b, off + i, none⟩ (.int .i64 g)) := (Ch.refl _ _).st (by simp) _
  have HO2 := Lib.hid (HO.out.gr g1)
  have hm2 : Sl 3 .i64 (w1.setCell ⟨b, off + i, none⟩ (.int .i64 g)) v2 zs := HO2.out.met.2.ch k1 (fun z hz hm => by simp at hm; subst hm; exact HO2.out.dj z (by simp [sb]) hz)
  have mm := HO2.out.met.1.ch k1 (by simpa using nM)
  obtain ⟨W1, hW1⟩ : ∃ W1, W1 = w1.setCell ⟨b, off + i, none⟩ (.int .i64 g) := ⟨_, rfl⟩
  have hBB : B ≤ w1.heap.size := by have := g1.size_le; omega
  rw [← hW1] at hm2 mm ⊢
  have HW := Lib.hid hW1
  clear hW1 k1
  obtain ⟨m2, mf2⟩ := mm.c1
  have HMM := Lib.hid mm
  clear mm
  go_wp2_with (at_builtin; refine wpList_sl1 el22 .i64 (.tmp 21) (.tmp 23) _ _ _ _ _ rfl rfl rfl rfl hm2 ?_ ?_ ?_)
  · omega
  · omega
  intro v' w' hv' hch hf'
  obtain ⟨d1, d2⟩ := (HMM.out.ch hch hMs).c1
  have HST := Lib.hid (And.intro (OM.step HO2.out hi hBB HW.out hv' hch hf') hf')
  obtain ⟨a', cp', rfl, _, _⟩ := hv'.len
  clear m2 mf2 hv' hch hf'
  go_wp2_with fail
  go_ret
  have hlen : (zs ++ [(i : Int)]).length = zs.length + 1 := by simp
  obtain ⟨⟨k1, k2⟩, k3⟩ := HST.out
  rw [hlen] at k1 k2 k3
  refine ⟨rfl, _, k1, ?_, fun x hx => ?_⟩
  · exact (g1.ch _).tr k2 (fun x hx => .inl (by simp [sb] at hx ⊢; exact hx))
  · rcases k3 x hx with h | h
    · exact .inl h
    · have hs : W1.heap.size = w1.heap.size := by rw [HW.out]; simp [World.setCell]
      have := g1.size_le
      exact .inr (by omega)
/-- What is carried along a walk's road. -/
def WalkI (w : World) (O1 MT : Nat) (n : Nat) (U : (Nat → Int) → Nat → Int) (P : (Nat → Int) → Nat → Bool) (f0 : Nat → Int) (v : Value) (J : World → Value → Prop) (zs : List Int) (w' : World) : Prop :=
  ∃ v2, OM w' w.heap.size O1 MT v v2 n (stW U f0 (accZ U P f0 zs)) (accZ U P f0 zs) ∧ Gr w w' ∧ J w' v2
end Go.Proofs.Ytkkobbomipcpoaa
