/- The walk of the law GiftWaits of chapter 25 (gift): it returns true for every input, and changes nothing that was there. -/
import Derived.Test.YtkkobbomipcpoaaGiW
namespace Go.Proofs.Ytkkobbomipcpoaa
open Go.RowKit
set_option linter.unusedVariables false
set_option maxHeartbeats 4000000
theorem clean_setW (L W O : List Int) (t : Nat) (ht : t < W.length) : (clean L (W.set t (-1)) O).n = (clean L W O).n ∧ (clean L (W.set t (-1)) O).lev = (clean L W O).lev ∧ ∀ x, (clean L (W.set t (-1)) O).next x = if x = (t : Int) then -1 else (clean L W O).next x := by
  refine ⟨rfl, rfl, fun x => ?_⟩
  unfold GS.next
  by_cases hb : 0 ≤ x ∧ x < ((clean L W O).n : Int)
  · rw [if_pos hb, if_pos (show 0 ≤ x ∧ x < ((clean L (W.set t (-1)) O).n : Int) from hb)]
    obtain ⟨i, rfl⟩ := Int.eq_ofNat_of_zero_le hb.1
    rw [Int.toNat_natCast]
    by_cases hi : i = t
    · subst hi
      rw [if_pos rfl]
      have : (clean L (W.set i (-1)) O).wt i = -1 := by
        show atI (W.set i (-1)) i (min O.length 64) = -1
        unfold atI
        rw [if_pos (.inr (.inl (by simp [ht])))]
      rw [this]
      rfl
    · have hne : t ≠ i := fun e => hi e.symm
      have : (clean L (W.set t (-1)) O).wt i = (clean L W O).wt i := by
        show atI (W.set t (-1)) i (min O.length 64) = atI W i (min O.length 64)
        unfold atI
        rw [List.length_set]
        simp [List.getD_eq_getElem?_getD, hne]
      rw [this, if_neg (show ¬ ((i : Int) = (t : Int)) by omega)]
      rfl
  · rw [if_neg hb, if_neg (show ¬ (0 ≤ x ∧ x < ((clean L (W.set t (-1)) O).n : Int)) from hb)]
    split <;> rfl
theorem step_slR {P : Program} {t e : TypeId} {z0 : Value} {bytes : Nat} (E : Elem P t e z0 1 bytes) (k : IntKind) {ops : Array Oper} {o : Oper} {a : Act} {K : Act → World → Prop} {Q : Exit → Act → World → Prop} {E' : Prop} (s x : Operand) (v : Value) (bu offu cu : Nat) (ws ys : List Int) (w : World)
    (hgd : o.guard = none) (ho : o.op = .call { callee := .builtin .append, args := #[s, x], argTypes := #[t, t] })
    (hs : a.eval s = v) (hx : a.eval x = .slice (some ⟨bu, offu, none⟩) ys.length cu) (hw : Sl e k w v ws) (hu : ∀ i, i < ys.length → w.cell? ⟨bu, offu + i, none⟩ = some (.int k (ys.getD i 0))) (hl : (ws.length + ys.length) * bytes ≤ 140737488355328) (hl1 : ws.length + ys.length ≤ 9223372036854775807)
    (h : ∀ v' w', Sl e k w' v' (ws ++ ys) → Ch (sb v) w w' → Foot w (sb v) (sb v') → K (a.put o.dst v') w') :
    if Region.wanted o (yielded ops a.tmps) = true then Oper.wp P o a w K Q else E' :=
  step_of_list hgd (wpList_slR E k s x v bu offu cu ws ys w hgd ho hs hx hw hu hl hl1 fun v' w' h1 h2 h3 => h v' w' h1 h2 h3)
theorem Blk.far3 {w : World} {g : Nat} {t : TypeId} {cs : Array Value} (h : Blk w g t cs) (F : Nat) (hF : g ≠ F) (u0 u1 u2 : Value) : Blk (((w.setCell ⟨F, 0, none⟩ u0).setCell ⟨F, 1, none⟩ u1).setCell ⟨F, 2, none⟩ u2) g t cs :=
  ((h.far (p := ⟨F, 0, none⟩) hF u0).far (p := ⟨F, 1, none⟩) hF u1).far (p := ⟨F, 2, none⟩) hF u2
theorem free_done {W4 w6 : World} {B F : Nat} {x0 x1 x2 : Value} {Wl : List Int} (hF : Blk w6 F 24 #[.slice none 0 0, .slice none 0 0, .slice none 0 0]) (hs : Sl 3 .i64 w6 x1 Wl) (g : Gr W4 w6) (hF4 : W4.heap.size ≤ F) (hB : B ≤ W4.heap.size) (hsb : ∀ y ∈ sb x1, W4.heap.size ≤ y) :
    Blk (((w6.setCell ⟨F, 0, none⟩ x0).setCell ⟨F, 1, none⟩ x1).setCell ⟨F, 2, none⟩ x2) F 24 #[x0, x1, x2] ∧ Sl 3 .i64 (((w6.setCell ⟨F, 0, none⟩ x0).setCell ⟨F, 1, none⟩ x1).setCell ⟨F, 2, none⟩ x2) x1 Wl ∧ (∀ y ∈ F :: sb x1, B ≤ y) ∧ Gr W4 (((w6.setCell ⟨F, 0, none⟩ x0).setCell ⟨F, 1, none⟩ x1).setCell ⟨F, 2, none⟩ x2) := by
  have k : Ch [F] w6 (((w6.setCell ⟨F, 0, none⟩ x0).setCell ⟨F, 1, none⟩ x1).setCell ⟨F, 2, none⟩ x2) := (((Ch.refl _ _).st (by simp) _).st (by simp) _).st (by simp) _
  refine ⟨((hF.st 0 x0).st 1 x1).st 2 x2, hs.ch k (fun y hy hm => by simp at hm; subst hm; exact hs.ne hF (by decide) hy), fun y hy => ?_, g.chs k (by simpa using hF4)⟩
  rcases List.mem_cons.1 hy with rfl | hy
  · omega
  · have := hsb y hy; omega
theorem step_at {P : Program} {ops : Array Oper} {o : Oper} {a : Act} (w : World) {K : Act → World → Prop} {Q : Exit → Act → World → Prop} {E' : Prop} (h : if Region.wanted o (yielded ops a.tmps) = true then Oper.wp P o a w K Q else E') : if Region.wanted o (yielded ops a.tmps) = true then Oper.wp P o a w K Q else E' := h
theorem keepTT {w : World} {p q : Nat} {t u : TypeId} {a b c d e f : Value} (h1 : Blk w p t #[a, b, c]) (h2 : Blk w q u #[d, e, f]) : w.cell? ⟨p, 0, none⟩ = some a ∧ w.cell? ⟨p, 1, none⟩ = some b ∧ w.cell? ⟨p, 2, none⟩ = some c ∧ w.cell? ⟨q, 0, none⟩ = some d ∧ w.cell? ⟨q, 1, none⟩ = some e ∧ w.cell? ⟨q, 2, none⟩ = some f :=
  ⟨h1.c3.1, h1.c3.2.1, h1.c3.2.2.1, h2.c3.1, h2.c3.2.1, h2.c3.2.2.1⟩
theorem keep3 {w : World} {p : Nat} {t : TypeId} {a b c : Value} (h1 : Blk w p t #[a, b, c]) : w.cell? ⟨p, 0, none⟩ = some a ∧ w.cell? ⟨p, 1, none⟩ = some b ∧ w.cell? ⟨p, 2, none⟩ = some c := ⟨h1.c3.1, h1.c3.2.1, h1.c3.2.2.1⟩
set_option maxRecDepth 100000 in
set_option maxHeartbeats 16000000 in
theorem giftWaits_walk (vl vw vo : Value) (L W O : List Int) (t : Int) (w : World) (h1 : Rn w vl L) (h2 : Rn w vw W) (h3 : Rn w vo O) (ht : -9223372036854775808 ≤ t ∧ t ≤ 9223372036854775807) :
    Calls Try.prog 7 #[.agg #[vl, vw, vo], .int .i64 t] w fun e w' => e = .returned (.bool true) ∧ Gr w w' := by
  have C13 := Lib.hid (gfew L W O vl vw vo (w.alloc (.cells #[vl, vw, vo] 24)) (h1.gr ((Gr.refl w).al _)) (h2.gr ((Gr.refl w).al _)) (h3.gr ((Gr.refl w).al _)))
  obtain ⟨al, cl, rfl, hl1, hl2, hl, hln⟩ := h1
  obtain ⟨aw, cw, rfl, hw1, hw2, hw, hwn⟩ := h2
  obtain ⟨ao, co, rfl, ho1, ho2, ho, hon⟩ := h3
  clear hl hw ho hln hwn hon
  have hA := Blk.new w 24 #[.slice al L.length cl, .slice aw W.length cw, .slice ao O.length co]
  have g1 := (Gr.refl w).al (.cells #[.slice al L.length cl, .slice aw W.length cw, .slice ao O.length co] 24)
  have hL70 : (L.take 70).length ≤ 70 := by rw [List.length_take]; omega
  have hW70 : (W.take 70).length ≤ 70 := by rw [List.length_take]; omega
  have hO70 : (O.take 70).length ≤ 70 := by rw [List.length_take]; omega
  generalize L.take 70 = L' at *
  generalize W.take 70 = W' at *
  generalize O.take 70 = O' at *
  go_enter Try.func7, Try.ntmps7
  go_upto_region 1 with fail
  generalize w.alloc (.cells #[.slice al L.length cl, .slice aw W.length cw, .slice ao O.length co] 24) = W1 at *
  generalize w.heap.size = A at *
  obtain ⟨x0, x1, x2, xf⟩ := hA.c3
  go_upto_region 2 with (first | (go_at_call 13; refine (C13.out).mono ?_; rintro e w2 ⟨vl', vw', vo', rv, rfl, r1, r2, r3, hrv, g2⟩; have HR := Lib.hid (And.intro r1 (And.intro r2 (And.intro r3 (And.intro hrv (g1.tr g2))))); obtain ⟨al', cl', rfl, _, _, _, _⟩ := r1; obtain ⟨aw', cw', rfl, _, _, _, _⟩ := r2; obtain ⟨ao', co', rfl, _, _, _, _⟩ := r3; obtain ⟨p1, p2, p3, rfl, q1, q2, q3⟩ := hrv; obtain ⟨e1, e2, rfl, _, _⟩ := q1.hd'; obtain ⟨e3, e4, rfl, _, _⟩ := q2.hd'; obtain ⟨e5, e6, rfl, _, _⟩ := q3.hd'; clear q1 q2 q3))
  have b1 := (Blk.new w2 25 #[.slice al' L'.length cl', .slice aw' W'.length cw', .slice ao' O'.length co']).al (.cells #[.slice e1 (clean L' W' O').n e2, .slice e3 (clean L' W' O').n e4, .slice e5 (clean L' W' O').m e6] 26)
  have b2 := Blk.new (w2.alloc (.cells #[.slice al' L'.length cl', .slice aw' W'.length cw', .slice ao' O'.length co'] 25)) 26 #[.slice e1 (clean L' W' O').n e2, .slice e3 (clean L' W' O').n e4, .slice e5 (clean L' W' O').m e6]
  rw [World.size_alloc] at b2
  have g3 := ((Gr.refl w2).al (.cells #[.slice al' L'.length cl', .slice aw' W'.length cw', .slice ao' O'.length co'] 25)).al (.cells #[.slice e1 (clean L' W' O').n e2, .slice e3 (clean L' W' O').n e4, .slice e5 (clean L' W' O').m e6] 26)
  generalize (w2.alloc (.cells #[.slice al' L'.length cl', .slice aw' W'.length cw', .slice ao' O'.length co'] 25)).alloc (.cells #[.slice e1 (clean L' W' O').n e2, .slice e3 (clean L' W' O').n e4, .slice e5 (clean L' W' O').m e6] 26) = W3 at *
  generalize w2.heap.size = P at *
  have GG := Lib.hid (HR.out.2.2.2.2.tr g3)
  have HV := Lib.hid (show GV W3 _ L' W' O' from ⟨_, _, _, rfl, HR.out.1.rd.gr g3, HR.out.2.1.rd.gr g3, HR.out.2.2.1.rd.gr g3⟩)
  have HW := Lib.hid (HR.out.2.2.2.1.gr g3)
  have HRN := Lib.hid (And.intro (HR.out.1.gr g3) (And.intro (HR.out.2.1.gr g3) (HR.out.2.2.1.gr g3)))
  have hok := clean_ok L' W' O'
  have hn64 := hok.n64
  clear HR g1 g2 g3 hA x0 x1 x2 xf
  obtain ⟨s, hs⟩ : ∃ s, clean L' W' O' = s := ⟨_, rfl⟩
  have C16 := Lib.hid (fun w' (g' : Gr W3 w') => gall _ _ _ _ w' (HV.out.gr g'))
  have HS := Lib.hid hs
  rw [hs] at C16 HW hok hn64 b2 ⊢
  clear hs
  have C36 := Lib.hid (fun w' (g' : Gr W3 w') => rringG _ s hok w' (HW.out.gr g'))
  have HB := Lib.hid (And.intro b1 b2)
  obtain ⟨x0, x1, x2, xf⟩ := b1.c3
  obtain ⟨y0, y1, y2, yf⟩ := b2.c3
  clear b1 b2
  by_cases hth : 0 ≤ t ∧ t < s.n
  · obtain ⟨i, rfl⟩ := Int.eq_ofNat_of_zero_le hth.1
    have hi : i < s.n := by omega
    have t1 : decide ((i : Int) < 0) = false := by simp
    have t2 : decide (s.n ≤ i) = false := by simp; omega
    have i1 : (0 : Int) ≤ (i : Int) := by omega
    have i2 : (i : Int) < (s.n : Int) := by omega
    clear hth
    have hwr := HW.out
    obtain ⟨q1, q2, q3, hqe, k1, k2, k3⟩ := hwr
    cases hqe
    obtain ⟨bw, ow, cw9, hvw, _, _, wc9⟩ := k2.at' hi
    cases hvw
    by_cases hw0 : s.wt i < 0
    · generalize s.wt i = x at *
      have t3 : decide (x < 0) = true := by simpa using hw0
      clear k1 k2 k3
      go_wp2_with (go_at_call 19; refine (awake25 _).mono ?_; rintro e w5 ⟨rfl, g5⟩)
      go_ret
      exact ⟨rfl, GG.out.tr g5⟩
    · obtain ⟨q, hq⟩ := Int.eq_ofNat_of_zero_le (show 0 ≤ s.wt i by omega)
      have hqm : q < s.m := by have := (hok.wt i).2; omega
      have hm64 := hok.m64
      obtain ⟨bo, oo, co9, hvo, _, _, oc9⟩ := k3.at' hqm
      cases hvo
      have hnx : s.next i = s.ow q := by
        unfold GS.next
        rw [if_pos (by omega), Int.toNat_natCast, if_neg hw0, hq, Int.toNat_natCast]
      have hwt : i < W'.length := by
        refine Classical.byContradiction fun hn => ?_
        have : s.wt i = -1 := by
          rw [← HS.out]
          show atI W' i (min O'.length 64) = -1
          unfold atI
          rw [if_pos (.inl (by omega))]
        omega
      have hob := hok.ow q
      rw [hq] at wc9
      have t3 : decide ((q : Int) < 0) = false := by simp
      have j1 : (0 : Int) ≤ (q : Int) := by omega
      have j2 : (q : Int) < (s.m : Int) := by omega
      obtain ⟨o, ho⟩ : ∃ o, s.ow q = o := ⟨_, rfl⟩
      rw [ho] at hnx hob oc9
      have HNX := Lib.hid hnx
      clear ho hq hw0 hnx k1 k2 k3
      go_upto_if 44 with (go_at_call 36; refine (C36.out _ (Gr.refl _)).mono ?_; rintro e w4 ⟨b, rfl, hb, g4⟩)
      cases b with
      | true =>
        go_wp2_with (go_at_call 19; refine (awake25 _).mono ?_; rintro e w5 ⟨rfl, g5⟩)
        go_ret
        exact ⟨rfl, (GG.out.tr g4).tr g5⟩
      | false =>
        have HOP := Lib.hid (hb rfl)
        have wc := g4.cell_some wc9
        have oc := g4.cell_some oc9
        clear hb x0 x1 x2 xf y0 y1 y2 yf t1 t2 t3 C36 wc9 oc9
        obtain ⟨y0, y1, y2, yf⟩ := (HB.out.2.gr g4).c3
        go_upto_region 4 with fail
        go_quiet (fail)
        have G4 := g4.drewN nq
        generalize w4.drewN nq = W4 at *
        clear y0 y1 y2 yf wc oc j1 j2 g4
        have r2 := HRN.out.2.1.gr G4
        obtain ⟨ad2, cp2, he2, _, _, hrow2, _⟩ := r2
        have hrow : ∃ b off, aw' = some ⟨b, off, none⟩ ∧ ∀ j, j < W'.length → W4.cell? ⟨b, off + j, none⟩ = some (.int .i64 (W'.getD j 0)) := by
          cases he2
          rcases hrow2 with h | h
          · rw [h] at hwt; simp at hwt
          · exact h
        obtain ⟨bq, oq, rfl, hcq⟩ := hrow
        have HCQ := Lib.hid hcq
        clear hcq hrow2 he2
        have HB4 := Lib.hid (And.intro (HB.out.1.gr G4) (HB.out.2.gr G4))
        obtain ⟨x0, x1, x2, xf⟩ := HB4.out.1.c3
        go_upto_region 5 with fail
        go_cut [8] (fun v wx => ∃ (F : Nat) (vw2 : Value), v = .pointer (some ⟨F, 0, none⟩) ∧ Blk wx F 24 #[.slice al' L'.length cl', vw2, .slice ao' O'.length co'] ∧ Sl 3 .i64 wx vw2 W' ∧ (∀ y ∈ F :: sb vw2, W4.heap.size ≤ y) ∧ Gr W4 wx)
        case first =>
          have hw4 : w.heap.size ≤ W4.heap.size := (GG.out.tr G4).size_le
          have hP := HB4.out.1
          have hPn := hP.lt
          clear HS HNX HOP HB HW GG C16 HRN HV HB4 C13 hok hL70 hO70 hob hqm hm64 hn64 G4 i1 i2 hi
          have g40 : Gr W4 W4.drew := (Gr.refl _).drew
          go_region_held3 (fun w' => w'.cell? ⟨P, 0, none⟩ = some (.slice al' L'.length cl') ∧ w'.cell? ⟨P, 1, none⟩ = some (.slice (some ⟨bq, oq, none⟩) W'.length cw') ∧ w'.cell? ⟨P, 2, none⟩ = some (.slice ao' O'.length co'))
            (first | exact keep3 hP | exact keep3 (hP.drew) | exact keep3 (hP.al _) | exact keep3 (hP.drew.al _) | exact keep3 ((hP.al _).al _) | exact keep3 ((hP.drew.al _).al _) | exact keep3 (Blk.far3 hP5 _ (by omega) _ _ _) | exact keep3 (Blk.far3 (hP5.al _) _ (by omega) _ _ _) | exact keep3 (hP5.al _) | exact keep3 hP5)
            (first
            | ((with_reducible refine step_at ((W4.alloc (.cells #[] 3)).drew) ?_); refine step_slR el22 .i64 (.tmp 57) (.tmp 59) (.slice (some ⟨W4.heap.size, 0, none⟩) 0 0) bq oq cw' [] W' (W4.drew.alloc (.cells #[] 3)) rfl rfl rfl rfl ⟨_, 0, rfl, Nat.le_refl _, by omega, .inr ⟨W4.heap.size, 0, #[], rfl, Blk.new W4.drew 3 #[], by simp, by simp⟩⟩ (fun j hj => ((g40.al _).cell_some (HCQ.out j hj))) (by simp; omega) (by simp; omega) ?_; intro v5 w5 hv5 ch5 hf5; have hP5 := (hP.drew.al (.cells #[] 3)).ch ch5 (by simp [sb]; omega); have hp5 := hP5.lt; have hg5 : Gr W4 w5 := (g40.al (.cells #[] 3)).chs ch5 (by simp [sb]); have hs5 := hg5.size_le; have HV5 := Lib.hid (And.intro hv5 (And.intro hg5 (show ∀ y ∈ sb v5, W4.heap.size ≤ y from fun y hy => by rcases hf5 y hy with h | h; (simp [sb] at h; omega); (have hz := (g40.al (.cells #[] 3)).size_le; omega)))); obtain ⟨a5, cp5, rfl, h51, h52⟩ := hv5.len; clear ch5 hf5 hv5 hg5)
            | ((with_reducible refine step_at (((W4.alloc (.cells #[] 3)).alloc (.cells #[.slice none 0 0, .slice none 0 0, .slice none 0 0] 24)).drew) ?_); refine step_slR el22 .i64 (.tmp 57) (.tmp 59) (.slice (some ⟨W4.heap.size, 0, none⟩) 0 0) bq oq cw' [] W' ((W4.drew.alloc (.cells #[] 3)).alloc (.cells #[.slice none 0 0, .slice none 0 0, .slice none 0 0] 24)) rfl rfl rfl rfl ⟨_, 0, rfl, Nat.le_refl _, by omega, .inr ⟨W4.heap.size, 0, #[], rfl, (Blk.new W4.drew 3 #[]).al _, by simp, by simp⟩⟩ (fun j hj => (((g40.al _).al _).cell_some (HCQ.out j hj))) (by simp; omega) (by simp; omega) ?_; intro v5 w5 hv5 ch5 hf5; have hP5 := ((hP.drew.al (.cells #[] 3)).al (.cells #[.slice none 0 0, .slice none 0 0, .slice none 0 0] 24)).ch ch5 (by simp [sb]; omega); have hF5 := (show Blk _ (W4.heap.size + 1) 24 #[.slice none 0 0, .slice none 0 0, .slice none 0 0] from (by have hh := Blk.new (W4.drew.alloc (.cells #[] 3)) 24 #[.slice none 0 0, .slice none 0 0, .slice none 0 0]; rw [World.size_alloc] at hh; exact hh)).ch ch5 (by simp [sb]); obtain ⟨f0, f1, f2, ff⟩ := hF5.c3; have hp5 := hP5.lt; have hg5 : Gr W4 w5 := ((g40.al (.cells #[] 3)).al (.cells #[.slice none 0 0, .slice none 0 0, .slice none 0 0] 24)).chs ch5 (by simp [sb]); have hs5 := hg5.size_le; have HV5 := Lib.hid (And.intro hv5 (And.intro hg5 (show ∀ y ∈ sb v5, W4.heap.size ≤ y from fun y hy => by rcases hf5 y hy with h | h; (simp [sb] at h; omega); (have hz := ((g40.al (.cells #[] 3)).al (.cells #[.slice none 0 0, .slice none 0 0, .slice none 0 0] 24)).size_le; omega)))); have HF5 := Lib.hid hF5; obtain ⟨a5, cp5, rfl, h51, h52⟩ := hv5.len; clear ch5 hf5 hv5 hg5)
            | ((with_reducible refine step_at (((W4.alloc (.cells #[.slice none 0 0, .slice none 0 0, .slice none 0 0] 24)).alloc (.cells #[] 3)).drew) ?_); refine step_slR el22 .i64 (.tmp 57) (.tmp 59) (.slice (some ⟨W4.heap.size + 1, 0, none⟩) 0 0) bq oq cw' [] W' ((W4.drew.alloc (.cells #[.slice none 0 0, .slice none 0 0, .slice none 0 0] 24)).alloc (.cells #[] 3)) rfl rfl rfl rfl ⟨_, 0, rfl, Nat.le_refl _, by omega, .inr ⟨W4.heap.size + 1, 0, #[], rfl, (by have hh := Blk.new (W4.drew.alloc (.cells #[.slice none 0 0, .slice none 0 0, .slice none 0 0] 24)) 3 #[]; rw [World.size_alloc] at hh; exact hh), by simp, by simp⟩⟩ (fun j hj => (((g40.al _).al _).cell_some (HCQ.out j hj))) (by simp; omega) (by simp; omega) ?_; intro v5 w5 hv5 ch5 hf5; have hP5 := ((hP.drew.al (.cells #[.slice none 0 0, .slice none 0 0, .slice none 0 0] 24)).al (.cells #[] 3)).ch ch5 (by simp [sb]; omega); have hF5 : Blk w5 W4.heap.size 24 #[.slice none 0 0, .slice none 0 0, .slice none 0 0] := ((Blk.new W4.drew 24 #[.slice none 0 0, .slice none 0 0, .slice none 0 0]).al (.cells #[] 3)).ch ch5 (by simp [sb]); obtain ⟨f0, f1, f2, ff⟩ := hF5.c3; have hp5 := hP5.lt; have hg5 : Gr W4 w5 := ((g40.al (.cells #[.slice none 0 0, .slice none 0 0, .slice none 0 0] 24)).al (.cells #[] 3)).chs ch5 (by simp [sb]); have hs5 := hg5.size_le; have HV5 := Lib.hid (And.intro hv5 (And.intro hg5 (show ∀ y ∈ sb v5, W4.heap.size ≤ y from fun y hy => by rcases hf5 y hy with h | h; (simp [sb] at h; omega); (have hz := ((g40.al (.cells #[.slice none 0 0, .slice none 0 0, .slice none 0 0] 24)).al (.cells #[] 3)).size_le; omega)))); have HF5 := Lib.hid hF5; obtain ⟨a5, cp5, rfl, h51, h52⟩ := hv5.len; clear ch5 hf5 hv5 hg5))
          all_goals
            go_wp2_with fail
            go_meet
            case rel =>
              first
                | exact ⟨_, _, rfl, free_done HF5.out HV5.out.1 HV5.out.2.1 (by omega) (Nat.le_refl _) HV5.out.2.2⟩
                | exact ⟨_, _, rfl, free_done HF5.out HV5.out.1 HV5.out.2.1 (Nat.le_refl _) (Nat.le_refl _) HV5.out.2.2⟩
                | exact ⟨_, _, rfl, free_done (Blk.new w5 24 _) (HV5.out.1.gr ((Gr.refl w5).al _)) (HV5.out.2.1.al _) hs5 (Nat.le_refl _) HV5.out.2.2⟩
                | exact ⟨_, _, rfl, Blk.new w5 24 _, HV5.out.1.gr ((Gr.refl w5).al _), fun y hy => by rcases List.mem_cons.1 hy with rfl | hy; omega; (have := HV5.out.2.2 y hy; omega), HV5.out.2.1.al _⟩
        case rest =>
          obtain ⟨F, vw2, rfl, hF, hs2, hbw, g5⟩ := hcut
          obtain ⟨bz, oz, cz, rfl, _, hz2, hzc, hzf, _⟩ := hs2.cells (by omega)
          have hzi := hzc i hwt
          have hnF : bz ≠ F := fun e => hs2.ne hF (by decide) (by simp [sb, e])
          have i3 : (i : Int) < (W'.length : Int) := by omega
          obtain ⟨f0, f1, f2, ff⟩ := hF.c3
          have G5 := G4.tr g5
          have s6 := hs2.st i hwt (-1)
          rw [List.length_set] at s6
          have k6 : Ch [bz] wc (wc.setCell ⟨bz, oz + i, none⟩ (.int .i64 (-1))) := (Ch.refl _ _).st (by simp) _
          have hF6 := hF.ch k6 (by simpa using fun e => hnF e.symm)
          have hz4 : W4.heap.size ≤ bz := hbw bz (by simp [sb])
          have G6 : Gr W3 (wc.setCell ⟨bz, oz + i, none⟩ (.int .i64 (-1))) := G5.st (p := ⟨bz, oz + i, none⟩) (by have := G4.size_le; show W3.heap.size ≤ bz; omega) _
          clear x0 x1 x2 xf
          go_upto_region 7 with fail
          have hWs : (W'.set i (-1)).length ≤ 70 := by rw [List.length_set]; exact hW70
          have HSW := Lib.hid (clean_setW L' W' O' i hwt)
          have C13b := Lib.hid (gfew L' (W'.set i (-1)) O' _ _ _ _ (HRN.out.1.gr G6) s6.rn (HRN.out.2.2.gr G6))
          rw [take_le _ hWs, take_le _ hL70, take_le _ hO70] at C13b
          rw [HS.out] at HSW
          obtain ⟨W2, hW2⟩ : ∃ W2, W'.set i (-1) = W2 := ⟨_, rfl⟩
          rw [hW2] at C13b HSW s6 hWs
          clear hW2 hF hs2 hzc hzi hzf f0 f1 f2 ff g5 k6
          generalize wc.setCell ⟨bz, oz + i, none⟩ (.int .i64 (-1)) = W6 at *
          obtain ⟨f0, f1, f2, ff⟩ := hF6.c3
          go_upto_region 8 with (first
            | (go_at_call 13; refine (C13b.out).mono ?_; rintro e w7 ⟨vl7, vw7, vo7, rv7, rfl, q1, q2, q3, q4, g7⟩; have HQ := Lib.hid (And.intro q1 (And.intro q2 (And.intro q3 q4))); obtain ⟨a71, c71, rfl, _, _, _, _⟩ := q1; obtain ⟨a72, c72, rfl, _, _, _, _⟩ := q2; obtain ⟨a73, c73, rfl, _, _, _, _⟩ := q3; obtain ⟨m1, m2, m3, rfl, n1, n2, n3⟩ := q4; obtain ⟨d1, d2, rfl, _, _⟩ := n1.hd'; obtain ⟨d3, d4, rfl, _, _⟩ := n2.hd'; obtain ⟨d5, d6, rfl, _, _⟩ := n3.hd'; clear n1 n2 n3))
          have b1 := (Blk.new w7 25 #[.slice a71 L'.length c71, .slice a72 W2.length c72, .slice a73 O'.length c73]).al (.cells #[.slice d1 (clean L' W2 O').n d2, .slice d3 (clean L' W2 O').n d4, .slice d5 (clean L' W2 O').m d6] 26)
          have b2 := Blk.new (w7.alloc (.cells #[.slice a71 L'.length c71, .slice a72 W2.length c72, .slice a73 O'.length c73] 25)) 26 #[.slice d1 (clean L' W2 O').n d2, .slice d3 (clean L' W2 O').n d4, .slice d5 (clean L' W2 O').m d6]
          rw [World.size_alloc] at b2
          have g8 := ((Gr.refl w7).al (.cells #[.slice a71 L'.length c71, .slice a72 W2.length c72, .slice a73 O'.length c73] 25)).al (.cells #[.slice d1 (clean L' W2 O').n d2, .slice d3 (clean L' W2 O').n d4, .slice d5 (clean L' W2 O').m d6] 26)
          first
            | generalize (w7.alloc (.cells #[.slice a71 L'.length c71, .slice a72 W2.length c72, .slice a73 O'.length c73] 25)).alloc (.cells #[.slice d1 (clean L' W2 O').n d2, .slice d3 (clean L' W2 O').n d4, .slice d5 (clean L' W2 O').m d6] 26) = W8 at *
          generalize w7.heap.size = P2 at *
          have G8 := (G6.tr g7).tr g8
          have HV2 := Lib.hid (show GV W8 _ L' W2 O' from ⟨_, _, _, rfl, HQ.out.1.rd.gr g8, HQ.out.2.1.rd.gr g8, HQ.out.2.2.1.rd.gr g8⟩)
          have HW2 := Lib.hid (HQ.out.2.2.2.gr g8)
          have hok2 := clean_ok L' W2 O'
          have GG8 := Lib.hid (GG.out.tr G8)
          have HB8 := Lib.hid (And.intro (HB.out.1.gr G8) (And.intro (HB.out.2.gr G8) (And.intro b1 b2)))
          have HV8 := Lib.hid (HV.out.gr G8)
          have HW8 := Lib.hid (HW.out.gr G8)
          have HRN8 := Lib.hid (And.intro (HRN.out.1.gr G8) (And.intro (HRN.out.2.1.gr G8) (HRN.out.2.2.gr G8)))
          have C16 := Lib.hid (fun w' (g' : Gr W8 w') => gall _ _ _ _ w' (HV8.out.gr g'))
          rw [HS.out] at C16
          clear f0 f1 f2 ff C13b HQ g7 g8 G4 G5 G6 b1 b2 G8 HV HB HW GG HRN hF6 s6 HB4 HCQ
          obtain ⟨s2, hs2⟩ : ∃ s2, clean L' W2 O' = s2 := ⟨_, rfl⟩
          have C34 := Lib.hid (fun w' (g' : Gr W8 w') (t : Int) (ev : Value) (eff : List Int) (he : Rd w' ev eff) => gworse _ _ _ _ eff ev t w' (HV2.out.gr g') he)
          have C16h := Lib.hid (fun w' (g' : Gr W8 w') => gall _ _ _ _ w' (HV2.out.gr g'))
          rw [hs2] at C34 C16h HW2 HB8 HSW hok2
          have hn64' := hok2.n64
          clear hs2 HV2
          have C17 := Lib.hid (fun w' (g' : Gr W8 w') => gallR _ s hok w' (HW8.out.gr g'))
          have C17h := Lib.hid (fun w' (g' : Gr W8 w') => gallR _ s2 hok2 w' (HW2.out.gr g'))
          have hal : s.all.length ≤ 1000 := by have := GS.all_le hok; omega
          have hal2 : s2.all.length ≤ 1000 := by have := GS.all_le hok2; omega
          obtain ⟨y0, y1, y2, yf⟩ := HB8.out.2.1.c3
          go_upto_region 9 with (go_at_call 17; refine (C17.out _ (Gr.refl _)).mono ?_; rintro e w9 ⟨vwith, rfl, swi, _, g9⟩)
          clear y0 y1 y2 yf
          obtain ⟨y0, y1, y2, yf⟩ := (HB8.out.2.2.2.gr g9).c3
          go_upto_region 10 with (go_at_call 17; refine (C17h.out _ g9).mono ?_; rintro e w10 ⟨vwo, rfl, swo, _, g10⟩)
          clear y0 y1 y2 yf
          have G10 := g9.tr g10
          have swi10 := swi.gr g10
          clear swi g9 g10
          by_cases ho0 : 0 ≤ o
          · obtain ⟨o, rfl⟩ := Int.eq_ofNat_of_zero_le ho0
            have hon : o < s.n := by omega
            have td : decide ((o : Int) < 0) = false := by simp
            obtain ⟨x0, x1, x2, xf⟩ := (HB8.out.2.2.1.gr G10).c3
            go_upto_region 13 with (go_at_call 16; refine (C16h.out _ G10).mono ?_; rintro e w11 ⟨va, rfl, sa, _, g11⟩)
            clear x0 x1 x2 xf td
            have G11 := G10.tr g11
            have D1 := Lib.hid (same_any s2.all va vwo w11 sa (swo.gr g11) hal2)
            go_upto_region 15 with (go_at_call 15; refine (D1.out).mono ?_; rintro e w12 ⟨rfl, g12⟩)
            have G12 := G11.tr g12
            have sa12 := sa.gr g12
            rw [all_effF] at sa12
            have hi2 : i < s2.n := by rw [HSW.out.1]; exact hi
            have ho2 : o < s2.n := by rw [HSW.out.1]; exact hon
            obtain ⟨ba, oa, ca, rfl, hca1, hca2, ac1, _⟩ := sa12.at hi2
            obtain ⟨ba', oa', ca', hvv, _, _, ac2, _⟩ := sa12.at ho2
            cases hvv
            have hgb := eff_bd hok2 hi2
            have HSA := Lib.hid (And.intro sa12 (And.intro (swi10.gr (g11.tr g12)) (swo.gr (g11.tr g12))))
            have HFO := Lib.hid (And.intro HSW.out.1 (And.intro HSW.out.2.2 HSW.out.2.1))
            have hoL : o < L'.length := by
              have : s.n = min L'.length 64 := by rw [← HS.out]; rfl
              omega
            have HWB := Lib.hid (fun sl hsn hsx hsl k h => waits_better (s := s) (s' := s2) (t0 := i) (o := o) HFO.out.1 HFO.out.2.1 HFO.out.2.2 hok hok2 hi hon HNX.out HOP.out (sl := sl) hsn hsx hsl (k := k) h)
            have HWS := Lib.hid (fun h => waits_same (s := s) (s' := s2) (t0 := i) (o := o) HFO.out.1 HFO.out.2.1 HFO.out.2.2 hok hok2 hi hon HNX.out HOP.out h)
            have HWW := Lib.hid (fun k h => waits_worse (s := s) (s' := s2) (t0 := i) (o := o) HFO.out.1 HFO.out.2.1 HFO.out.2.2 hok hok2 hi hon HNX.out HOP.out (k := k) h)
            have HA2 := Lib.hid (all_effF s2)
            clear sa sa12 swi10 swo D1 hnF hz4
            have i4 : (i : Int) < (s2.n : Int) := by omega
            have o1 : (0 : Int) ≤ (o : Int) := by omega
            have o2 : (o : Int) < (s2.n : Int) := by omega
            obtain ⟨gi, hgi⟩ : ∃ gi, effF s2 i = gi := ⟨_, rfl⟩
            obtain ⟨go', hgo⟩ : ∃ go', effF s2 o = go' := ⟨_, rfl⟩
            rw [hgi] at ac1 hgb HWB HWS
            rw [hgo] at ac2 HWS
            clear hgi hgo
            go_upto_if 107 with fail
            go_cut [13] (fun v wx => Sl 3 .i64 wx v s.all ∧ Gr w12 wx)
            case first =>
              by_cases hlt : gi < go'
              · have td : decide (gi < go') = true := by simpa using hlt
                have HL2 := Lib.hid (clean_setL L' W' O' o gi hoL)
                have hLs : (L'.set o gi).length ≤ 70 := by rw [List.length_set]; exact hL70
                have C37 := Lib.hid (gturned L' W' O' _ _ _ o gi w12 (HRN8.out.1.gr G12) (HRN8.out.2.1.gr G12) (HRN8.out.2.2.gr G12) hoL hL70)
                have C13b := Lib.hid (fun vl2 w' (g' : Gr W8 w') (h : Rn w' vl2 (L'.set o gi)) => gfew (L'.set o gi) W' O' vl2 _ _ w' h (HRN8.out.2.1.gr g') (HRN8.out.2.2.gr g'))
                rw [take_le _ hLs, take_le _ hW70, take_le _ hO70] at C13b
                rw [HS.out] at HL2
                obtain ⟨L2, hL2⟩ : ∃ L2, L'.set o gi = L2 := ⟨_, rfl⟩
                rw [hL2] at C37 HL2 C13b hLs
                clear hL2
                obtain ⟨x0, x1, x2, xf⟩ := (HB8.out.1.gr G12).c3
                go_upto_region 18 with (first
                  | (go_at_call 37; refine (C37.out).mono ?_; rintro e u6 ⟨vl2, rfl, r6, g6⟩; obtain ⟨a6, c6, rfl, h61, h62, h63, h64⟩ := r6; have r6 : Rn u6 (.slice a6 L2.length c6) L2 := ⟨a6, c6, rfl, h61, h62, h63, h64⟩; clear h63 h64)
                  | (go_at_call 13; refine (C13b.out _ _ (G12.tr g6) r6).mono ?_; rintro e u7 ⟨vl7, vw7, vo7, rv7, rfl, q1, q2, q3, q4, g7⟩; have HQ := Lib.hid (And.intro q1 (And.intro q2 (And.intro q3 q4))); obtain ⟨b71, k71, rfl, _, _, _, _⟩ := q1; obtain ⟨b72, k72, rfl, _, _, _, _⟩ := q2; obtain ⟨b73, k73, rfl, _, _, _, _⟩ := q3; obtain ⟨m1, m2, m3, rfl, n1, n2, n3⟩ := q4; obtain ⟨h1', h2', rfl, _, _⟩ := n1.hd'; obtain ⟨h3', h4', rfl, _, _⟩ := n2.hd'; obtain ⟨h5', h6', rfl, _, _⟩ := n3.hd'; clear n1 n2 n3))
                have b1 := (Blk.new u7 25 #[.slice b71 L2.length k71, .slice b72 W'.length k72, .slice b73 O'.length k73]).al (.cells #[.slice h1' (clean L2 W' O').n h2', .slice h3' (clean L2 W' O').n h4', .slice h5' (clean L2 W' O').m h6'] 26)
                have g8 := ((Gr.refl u7).al (.cells #[.slice b71 L2.length k71, .slice b72 W'.length k72, .slice b73 O'.length k73] 25)).al (.cells #[.slice h1' (clean L2 W' O').n h2', .slice h3' (clean L2 W' O').n h4', .slice h5' (clean L2 W' O').m h6'] 26)
                generalize (u7.alloc (.cells #[.slice b71 L2.length k71, .slice b72 W'.length k72, .slice b73 O'.length k73] 25)).alloc (.cells #[.slice h1' (clean L2 W' O').n h2', .slice h3' (clean L2 W' O').n h4', .slice h5' (clean L2 W' O').m h6'] 26) = U8 at *
                generalize u7.heap.size = P3 at *
                have K8 := (g6.tr g7).tr g8
                have HV3 := Lib.hid (show GV U8 _ L2 W' O' from ⟨_, _, _, rfl, HQ.out.1.rd.gr g8, HQ.out.2.1.rd.gr g8, HQ.out.2.2.1.rd.gr g8⟩)
                have C32 := Lib.hid (gbetter _ _ _ _ (lst s2.n (effF s2)) _ o U8 HV3.out (HSA.out.1.rd.gr K8))
                clear x0 x1 x2 xf
                obtain ⟨x0, x1, x2, xf⟩ := b1.c3
                have hlo : (clean L2 W' O').lev o = gi := by
                  rw [HL2.out.2.2.2, upd, if_pos rfl]
                  unfold holdI
                  rw [if_neg (by omega), if_neg (by omega)]
                go_wp2_with (go_at_call 32; refine (C32.out).mono ?_; rintro e u9 ⟨k9, v9, z9, hk9, rfl, s9, m9, g9'⟩)
                rw [Int.toNat_natCast] at hk9 s9
                rw [HWB.out _ HL2.out.1 HL2.out.2.2.1 hlo k9 hk9] at s9
                obtain ⟨a9, c9, rfl, _, _⟩ := s9.len
                go_meet
                case rel => exact ⟨s9, K8.tr g9'⟩
              · have td : decide (gi < go') = false := by simpa using hlt
                have HSM := Lib.hid (HWS.out (by omega))
                go_wp2_with fail
                go_meet
                case rel => exact ⟨by rw [← HSM.out, HA2.out]; exact HSA.out.1, Gr.refl _⟩
            case rest =>
              obtain ⟨hsv, gq⟩ := hcut
              have GQ := G12.tr gq
              have HSV := Lib.hid (And.intro hsv (And.intro (HSA.out.2.1.gr gq) (HSA.out.2.2.gr gq)))
              clear hsv ac1 ac2
              go_upto_region 19 with fail
              have HGQ := Lib.hid GQ
              go_region_held3 (fun w' => w'.cell? ⟨P, 0, none⟩ = some (.slice al' L'.length cl') ∧ w'.cell? ⟨P, 1, none⟩ = some (.slice (some ⟨bq, oq, none⟩) W'.length cw') ∧ w'.cell? ⟨P, 2, none⟩ = some (.slice ao' O'.length co') ∧ w'.cell? ⟨P2, 0, none⟩ = some (.slice a71 L'.length c71) ∧ w'.cell? ⟨P2, 1, none⟩ = some (.slice a72 W2.length c72) ∧ w'.cell? ⟨P2, 2, none⟩ = some (.slice a73 O'.length c73))
                (first | exact keepTT (HB8.out.1.gr K2.out) (HB8.out.2.2.1.gr K2.out) | exact keepTT (HB8.out.1.gr K1.out) (HB8.out.2.2.1.gr K1.out) | exact keepTT (HB8.out.1.gr HGQ.out) (HB8.out.2.2.1.gr HGQ.out) | exact keepTT (HB8.out.1.gr HGQ.out.drew) (HB8.out.2.2.1.gr HGQ.out.drew))
                (first
                | (go_at_call 16; refine (C16.out _ HGQ.out.drew).mono ?_; rintro e u1 ⟨v1, rfl, z1, _, h1⟩; have K1 := Lib.hid (HGQ.out.drew.tr h1))
                | (go_at_call 34; refine (C34.out _ K1.out o v1 s.all z1.rd).mono ?_; rintro e u2 ⟨k2, v2, m2, hk2, rfl, z2, y2, h2⟩; have K2 := Lib.hid (K1.out.tr h2)))
              all_goals
                rw [all_effF s] at hk2 z2
                rw [HWW.out k2 hk2] at z2
                have hq2 : Gr _ u2 := ((Gr.refl _).drew.tr h1).tr h2
                have D1 := Lib.hid (same_any s.all _ vwith u2 (HSV.out.1.gr hq2) (HSV.out.2.1.gr hq2) hal)
                have D2 := Lib.hid (fun w' (g' : Gr u2 w') => same_any s2.all v2 vwo w' (z2.gr g') ((HSV.out.2.2.gr hq2).gr g') hal2)
                go_wp2_with (first
                  | (go_at_call 15; (with_reducible refine (D1.out).mono ?_); rintro e u3 ⟨rfl, h3⟩)
                  | (go_at_call 15; (with_reducible refine (D2.out _ h3).mono ?_); rintro e u4 ⟨rfl, h4⟩)
                  | (go_at_call 19; refine (awake25 _).mono ?_; rintro e u5 ⟨rfl, h5⟩))
                go_ret
                exact ⟨rfl, GG8.out.tr (K2.out.tr (h3.tr (h4.tr h5)))⟩
          · obtain rfl : o = -1 := by omega
            have HEQ := Lib.hid (show s2.all = s.all by
              have hx2 : s2.next = s.next := by
                funext x
                rw [HSW.out.2.2]
                split
                · rename_i h; rw [h, HNX.out]
                · rfl
              rw [all_effF, all_effF, effF_congr HSW.out.1 hx2 HSW.out.2.1, HSW.out.1])
            rw [HEQ.out] at swo C16h
            go_upto_region 11 with fail
            have HW10 := Lib.hid (And.intro swi10 swo)
            go_region_held3 (fun w' => w'.cell? ⟨P, 0, none⟩ = some (.slice al' L'.length cl') ∧ w'.cell? ⟨P, 1, none⟩ = some (.slice (some ⟨bq, oq, none⟩) W'.length cw') ∧ w'.cell? ⟨P, 2, none⟩ = some (.slice ao' O'.length co') ∧ w'.cell? ⟨P2, 0, none⟩ = some (.slice a71 L'.length c71) ∧ w'.cell? ⟨P2, 1, none⟩ = some (.slice a72 W2.length c72) ∧ w'.cell? ⟨P2, 2, none⟩ = some (.slice a73 O'.length c73))
              (first | exact keepTT (HB8.out.1.gr K5.out) (HB8.out.2.2.1.gr K5.out) | exact keepTT (HB8.out.1.gr K4.out) (HB8.out.2.2.1.gr K4.out) | exact keepTT (HB8.out.1.gr K3.out) (HB8.out.2.2.1.gr K3.out) | exact keepTT (HB8.out.1.gr K2.out) (HB8.out.2.2.1.gr K2.out) | exact keepTT (HB8.out.1.gr K1.out) (HB8.out.2.2.1.gr K1.out) | exact keepTT (HB8.out.1.gr G10) (HB8.out.2.2.1.gr G10) | exact keepTT (HB8.out.1.gr G10.drew) (HB8.out.2.2.1.gr G10.drew))
              (first
              | (go_at_call 15; (with_reducible refine (same_any s.all vwith vwo w10.drew (swi10.gr ((Gr.refl _).drew)) (swo.gr ((Gr.refl _).drew)) hal).mono ?_); rintro e u1 ⟨rfl, h1⟩; have K1 := Lib.hid (G10.drew.tr h1))
              | (go_at_call 16; (with_reducible refine (C16.out _ K1.out).mono ?_); rintro e u2 ⟨v2, rfl, z2, _, h2⟩; have K2 := Lib.hid (K1.out.tr h2))
              | (go_at_call 16; (with_reducible refine (C16h.out _ K2.out).mono ?_); rintro e u3 ⟨v3, rfl, z3, _, h3⟩; have K3 := Lib.hid (K2.out.tr h3))
              | (go_at_call 15; (with_reducible refine (same_any s.all v2 v3 u3 (z2.gr h3) z3 hal).mono ?_); rintro e u4 ⟨rfl, h4⟩; have K4 := Lib.hid (K3.out.tr h4))
              | (go_at_call 19; refine (awake25 _).mono ?_; rintro e u5 ⟨rfl, h5⟩; have K5 := Lib.hid (K4.out.tr h5)))
            all_goals
              go_wp2_with fail
              go_ret
              exact ⟨rfl, GG8.out.tr K5.out⟩
  · have hds : decide (t < 0) = true ∨ (decide (t < 0) = false ∧ decide ((s.n : Int) ≤ t) = true) := by
      simp only [decide_eq_true_eq, decide_eq_false_iff_not]
      omega
    clear hth
    rcases hds with d1 | ⟨d1, d2⟩
    all_goals
      go_wp2_with (go_at_call 19; refine (awake25 _).mono ?_; rintro e w5 ⟨rfl, g5⟩)
      go_ret
      exact ⟨rfl, GG.out.tr g5⟩
end Go.Proofs.Ytkkobbomipcpoaa
