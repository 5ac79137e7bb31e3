/- Chapter 25 (gift): Better and Worse of the program, for every graph. -/
import Derived.Test.YtkkobbomipcpoaaGiJ
namespace Go.Proofs.Ytkkobbomipcpoaa
open Go.RowKit
set_option linter.unusedVariables false
set_option maxHeartbeats 2000000
section
variable {w w' : World} {B O1 MT : Nat} {v v2 v2' : Value} {n : Nat} {f : Nat → Int} {zs : List Int}
theorem OM.far (h : OM w B O1 MT v v2 n f zs) {M : Nat} {t : TypeId} {cs : Array Value} (hM : Blk w M t cs) (h1 : t ≠ 22) (h2 : t ≠ 3) : M ∉ MT :: (sb v ++ sb v2) := fun hm => by
  rcases List.mem_cons.1 hm with rfl | hm
  · exact h.met.1.dif hM (fun e => h1 e.symm) rfl
  · rcases List.mem_append.1 hm with hm | hm
    · exact h.out.2.ne hM h2 hm
    · exact h.met.2.ne hM h2 hm
theorem OM.st (h : OM w B O1 MT v v2 n f zs) {M : Nat} {t : TypeId} {cs : Array Value} (hM : Blk w M t cs) (h1 : t ≠ 22) (h2 : t ≠ 3) (p : Nat) (u : Value) : OM (w.setCell ⟨M, p, none⟩ u) B O1 MT v v2 n f zs :=
  ⟨h.out.st hM h1 h2 p u, h.met.st hM h1 h2 p u, h.dj, h.ne, h.b1⟩
end
theorem bet_on (w : World) (gv : Value) (L W O : List Int) (hg : GV w gv L W O) (GN O1 MT : Nat) (g : Int) (v : Value) (f0 : Nat → Int) :
    OnG 87 (fun x => #[.int .i64 x, .pointer (some ⟨GN, 0, none⟩), .pointer (some ⟨O1, 0, none⟩), .pointer (some ⟨MT, 0, none⟩)]) w.heap.size gv L W O (fun zs x => betP g (stW (betU g) f0 (accZ (betU g) (betP g) f0 zs)) x.toNat)
      (WalkI w O1 MT (clean L W O).n (betU g) (betP g) f0 v fun w' v2 => Blk w' GN 3 #[.int .i64 g] ∧ GN ∉ sb v ∧ GN ∉ sb v2) := by
  have hn64 := (clean_ok L W O).n64
  refine ⟨?_, ?_, ?_, ?_⟩
  · rintro zs w' ⟨v2, h1, h2, h3⟩; exact hg.gr h2
  · rintro zs w' w'' ⟨v2, h1, h2, h3, h4, h5⟩ g'; exact ⟨v2, h1.gr g', h2.tr g', h3.gr g', h4, h5⟩
  · rintro zs w' M cs p u ⟨v2, h1, h2, h3, h4, h5⟩ hM hB
    exact ⟨v2, h1.st hM (by decide) (by decide) p u, h2.st (p := ⟨M, p, none⟩) hB u, h3.far (p := ⟨M, p, none⟩) (h3.dif hM (by decide)) u, h4, h5⟩
  · rintro zs x w' hzl hx hxz ⟨v2, h1, h2, h3, h4, h5⟩
    have hal := accZ_len (U := betU g) (P := betP g) (f0 := f0) zs
    by_cases hp : betP g (stW (betU g) f0 (accZ (betU g) (betP g) f0 zs)) x = true
    · have hp' : g < stW (betU g) f0 (accZ (betU g) (betP g) f0 zs) x := of_decide_eq_true hp
      refine (bet_yes x g w.heap.size GN O1 MT v v2 _ _ _ w' h1 h3 h4 h5 hx hn64 (by omega) h2.size_le hp').mono ?_
      rintro e w'' ⟨rfl, v2', k1, k2, k3⟩
      have e1 : accZ (betU g) (betP g) f0 (zs ++ [(x : Int)]) = accZ (betU g) (betP g) f0 zs ++ [(x : Int)] := by rw [accZ_snoc, Int.toNat_natCast, if_pos hp]
      refine ⟨by rw [Int.toNat_natCast, hp], ⟨v2', by rw [e1, stW_snoc]; exact k1, h2.chs k2 (fun y hy => h1.b1 y (by rcases List.mem_cons.1 hy with rfl | hy; simp; exact List.mem_cons_of_mem _ (List.mem_cons_of_mem _ hy))), h3.ch k2 (fun hm => ?_), h4, fun hm => ?_⟩, fun M t cs ht hM => hM.ch k2 (h1.far hM (by rcases ht with rfl | rfl <;> decide) (by rcases ht with rfl | rfl <;> decide))⟩
      · rcases List.mem_cons.1 hm with rfl | hm
        · exact h1.met.1.dif h3 (by decide) rfl
        · rcases List.mem_append.1 hm with hm | hm
          · exact h4 hm
          · exact h5 hm
      · rcases k3 GN hm with hm | hm
        · exact h5 hm
        · have := h3.lt; omega
    · have hpf : betP g (stW (betU g) f0 (accZ (betU g) (betP g) f0 zs)) x = false := by simpa using hp
      refine (bet_no x g w.heap.size GN O1 MT v v2 _ _ _ w' h1 h3 hx hn64 (of_decide_eq_false hpf)).mono ?_
      rintro e w'' ⟨rfl, g'⟩
      have e1 : accZ (betU g) (betP g) f0 (zs ++ [(x : Int)]) = accZ (betU g) (betP g) f0 zs := by rw [accZ_snoc, Int.toNat_natCast, if_neg hp]
      exact ⟨by rw [Int.toNat_natCast, hpf], ⟨v2, by rw [e1]; exact h1.gr g', h2.tr g', h3.gr g', h4, h5⟩, fun _ _ _ _ h => h.gr g'⟩
theorem wor_on (w : World) (L W O : List Int) (al aw ao : Option Addr) (cl cw co : Nat) (hg : GV w (.agg #[.slice al L.length cl, .slice aw W.length cw, .slice ao O.length co]) L W O) (GB O1 MT : Nat) (v : Value) (f0 : Nat → Int) :
    OnG 90 (fun x => #[.int .i64 x, .pointer (some ⟨GB, 0, none⟩), .pointer (some ⟨O1, 0, none⟩), .pointer (some ⟨MT, 0, none⟩)]) w.heap.size (.agg #[.slice al L.length cl, .slice aw W.length cw, .slice ao O.length co]) L W O (fun zs x => worP (clean L W O) (stW (worU (clean L W O)) f0 (accZ (worU (clean L W O)) (worP (clean L W O)) f0 zs)) x.toNat)
      (WalkI w O1 MT (clean L W O).n (worU (clean L W O)) (worP (clean L W O)) f0 v fun w' v2 => Blk w' GB 25 #[.slice al L.length cl, .slice aw W.length cw, .slice ao O.length co]) := by
  refine ⟨?_, ?_, ?_, ?_⟩
  · rintro zs w' ⟨v2, h1, h2, h3⟩; exact hg.gr h2
  · rintro zs w' w'' ⟨v2, h1, h2, h3⟩ g'; exact ⟨v2, h1.gr g', h2.tr g', h3.gr g'⟩
  · rintro zs w' M cs p u ⟨v2, h1, h2, h3⟩ hM hB
    exact ⟨v2, h1.st hM (by decide) (by decide) p u, h2.st (p := ⟨M, p, none⟩) hB u, h3.far (p := ⟨M, p, none⟩) (h3.dif hM (by decide)) u⟩
  · rintro zs x w' hzl hx hxz ⟨v2, h1, h2, h3⟩
    have hal := accZ_len (U := worU (clean L W O)) (P := worP (clean L W O)) (f0 := f0) zs
    by_cases hp : worP (clean L W O) (stW (worU (clean L W O)) f0 (accZ (worU (clean L W O)) (worP (clean L W O)) f0 zs)) x = true
    · refine (wor_yes L W O al aw ao cl cw co x w.heap.size GB O1 MT v v2 _ _ w' (hg.gr h2) h1 h3 hx (by omega) h2.size_le hp).mono ?_
      rintro e w'' ⟨rfl, v2', k1, k2, k3⟩
      have e1 : accZ (worU (clean L W O)) (worP (clean L W O)) f0 (zs ++ [(x : Int)]) = accZ (worU (clean L W O)) (worP (clean L W O)) f0 zs ++ [(x : Int)] := by rw [accZ_snoc, Int.toNat_natCast, if_pos hp]
      exact ⟨by rw [Int.toNat_natCast, hp], ⟨v2', by rw [e1, stW_snoc]; exact k1, h2.chs k2 (fun y hy => h1.b1 y (by rcases List.mem_cons.1 hy with rfl | hy; simp; exact List.mem_cons_of_mem _ (List.mem_cons_of_mem _ hy))), h3.ch k2 (h1.far h3 (by decide) (by decide))⟩, fun M t cs ht hM => hM.ch k2 (h1.far hM (by rcases ht with rfl | rfl <;> decide) (by rcases ht with rfl | rfl <;> decide))⟩
    · have hpf : worP (clean L W O) (stW (worU (clean L W O)) f0 (accZ (worU (clean L W O)) (worP (clean L W O)) f0 zs)) x = false := by simpa using hp
      refine (wor_no L W O al aw ao cl cw co x w.heap.size GB O1 MT v v2 _ _ w' (hg.gr h2) h1 h3 hx hpf).mono ?_
      rintro e w'' ⟨rfl, g'⟩
      have e1 : accZ (worU (clean L W O)) (worP (clean L W O)) f0 (zs ++ [(x : Int)]) = accZ (worU (clean L W O)) (worP (clean L W O)) f0 zs := by rw [accZ_snoc, Int.toNat_natCast, if_neg hp]
      exact ⟨by rw [Int.toNat_natCast, hpf], ⟨v2, by rw [e1]; exact h1.gr g', h2.tr g', h3.gr g'⟩, fun _ _ _ _ h => h.gr g'⟩
/-- What a walk hands back. -/
def Walk2 (w : World) (s : GS) (U : (Nat → Int) → Nat → Int) (P : (Nat → Int) → Nat → Bool) (f0 : Nat → Int) (t : Int) (e : Ending) (w' : World) : Prop :=
  ∃ k v v2, Walked s.n s.next U P f0 t k ∧ e = .returned (.tuple #[v, v2]) ∧ Sl 3 .i64 w' v (lst s.n (stW U f0 (road s.next t k))) ∧ Sl 3 .i64 w' v2 (road s.next t k) ∧ Gr w w'
theorem walk2_of {w w' : World} {s : GS} {U : (Nat → Int) → Nat → Int} {P : (Nat → Int) → Nat → Bool} {f0 : Nat → Int} {t : Int} {O1 MT : Nat} {v : Value} {J : World → Value → Prop} {k : Nat} (hno : NoEnd s.n s.next t k) (hon : ∀ j, j < k → P (stW U f0 (accZ U P f0 (road s.next t j))) (it s.next t j).toNat = true)
    (hend : (End s.n s.next t k ∧ WalkI w O1 MT s.n U P f0 v J (road s.next t k) w') ∨ (¬ End s.n s.next t k ∧ P (stW U f0 (accZ U P f0 (road s.next t k))) (it s.next t k).toNat = false ∧ WalkI w O1 MT s.n U P f0 v J (road s.next t (k + 1)) w')) :
    ∃ v2, Walked s.n s.next U P f0 t k ∧ VarAt w' O1 v (lst s.n (stW U f0 (road s.next t k))) ∧ VarAt w' MT v2 (road s.next t k) ∧ Gr w w' := by
  have hr := accZ_road hon k (Nat.le_refl _)
  rcases hend with ⟨h1, v2, h2, h3, _⟩ | ⟨h1, h0, v2, h2, h3, _⟩
  · rw [hr] at h2
    exact ⟨v2, walked_of hno hon (.inl h1), h2.out, h2.met, h3⟩
  · rw [road_succ, accZ_snoc, if_neg (by rw [h0]; simp), hr] at h2
    exact ⟨v2, walked_of hno hon (.inr ⟨h1, h0⟩), h2.out, h2.met, h3⟩
set_option maxRecDepth 100000 in
theorem gbetter (gv : Value) (L W O eff : List Int) (ev : Value) (t : Int) (w : World) (h : GV w gv L W O) (he : Rd w ev eff) : Calls Try.prog 32 #[gv, ev, .int .i64 t] w (Walk2 w (clean L W O) (betU ((clean L W O).lev t.toNat)) (betP ((clean L W O).lev t.toNat)) (fillF eff) t) := by
  have HG := Lib.hid h
  obtain ⟨vl, vw, vo, rfl, ⟨al, cl, rfl, hl1, hl2, hl⟩, ⟨aw, cw, rfl, hw1, hw2, hw⟩, ⟨ao, co, rfl, ho1, ho2, ho⟩⟩ := h
  have hn64 := (clean_ok L W O).n64
  have hB := Blk.new w 25 #[.slice al L.length cl, .slice aw W.length cw, .slice ao O.length co]
  have g1 := (Gr.refl w).al (.cells #[.slice al L.length cl, .slice aw W.length cw, .slice ao O.length co] 25)
  have C85 := Lib.hid (gfilled _ L W O eff ev _ (HG.out.gr g1) (he.gr g1))
  have CL := Lib.hid (fun (i : Nat) w' (g' : Gr w w') (hi : i < (clean L W O).n) => glevel _ L W O i w' (HG.out.gr g') hi)
  have CT := Lib.hid (fun w' (g' : Gr w w') => gthread _ L W O t w' (HG.out.gr g'))
  obtain ⟨ae, ce, rfl, he1, he2⟩ := he.hd
  clear hl hw ho he
  go_enter Try.func32, Try.ntmps32
  go_upto_region 1 with fail
  generalize w.alloc (.cells #[.slice al L.length cl, .slice aw W.length cw, .slice ao O.length co] 25) = W1 at *
  obtain ⟨X, hX⟩ : ∃ X, w.heap.size = X := ⟨_, rfl⟩
  rw [hX] at hB ⊢
  obtain ⟨x0, x1, x2, xf⟩ := hB.c3
  go_upto_region 3 with (go_at_call 85; refine (C85.out).mono ?_; rintro e w2 ⟨v, rfl, sv, bv, g2⟩; obtain ⟨va, vc, rfl, hv1, hv2⟩ := sv.hd)
  have b1 := (Blk.new w2 22 #[.slice va (clean L W O).n vc]).al (.cells #[.slice none 0 0] 22)
  have b2 := Blk.new (w2.alloc (.cells #[.slice va (clean L W O).n vc] 22)) 22 #[.slice none 0 0]
  rw [World.size_alloc] at b2
  have g3 := ((Gr.refl w2).al (.cells #[.slice va (clean L W O).n vc] 22)).al (.cells #[.slice none 0 0] 22)
  have G3 := (g1.tr g2).tr g3
  have hX3 := (hB.gr g2).gr g3
  have hw2 : w.heap.size ≤ w2.heap.size := (g1.tr g2).size_le
  have HOM : OM ((w2.alloc (.cells #[.slice va (clean L W O).n vc] 22)).alloc (.cells #[.slice none 0 0] 22)) w.heap.size w2.heap.size (w2.heap.size + 1) (.slice va (clean L W O).n vc) (.slice none 0 0) (clean L W O).n (fillF eff) [] := by
    refine ⟨⟨b1, sv.gr g3⟩, ⟨b2, Sl.nil _ _ _⟩, by simp [Disj, sb], by omega, fun y hy => ?_⟩
    simp only [List.mem_cons, List.mem_append] at hy
    have := g1.size_le
    rcases hy with rfl | rfl | hy | hy
    · omega
    · omega
    · have := bv y hy; omega
    · simp [sb] at hy
  clear x0 x1 x2 xf C85 hB g1 g2 g3 sv bv b1 b2
  generalize (w2.alloc (.cells #[.slice va (clean L W O).n vc] 22)).alloc (.cells #[.slice none 0 0] 22) = W3 at *
  generalize w2.heap.size = O1 at *
  obtain ⟨MT, hMT⟩ : ∃ MT, O1 + 1 = MT := ⟨_, rfl⟩
  rw [hMT] at HOM ⊢
  obtain ⟨x0, x1, x2, xf⟩ := hX3.c3
  obtain ⟨o1, _⟩ := HOM.out.1.c1
  obtain ⟨m1, _⟩ := HOM.met.1.c1
  have C86 := Lib.hid (CT.out W3 G3)
  have HO := Lib.hid HOM
  cases hth : (clean L W O).th t
  · rw [hth] at C86
    have HE := Lib.hid (show End (clean L W O).n (clean L W O).next t 0 from .inl (show ¬ (0 ≤ t ∧ t < ((clean L W O).n : Int)) by simpa [GS.th] using hth))
    clear hth
    go_upto_region 4 with (go_at_call 86; refine (C86.out).mono ?_; rintro e w4 ⟨rfl, g4⟩; obtain ⟨p1, _⟩ := (HO.out.out.1.gr g4).c1; obtain ⟨p2, _⟩ := (HO.out.met.1.gr g4).c1)
    go_quiet (fail)
    go_wp2_with fail
    go_ret2
    exact ⟨0, _, _, ⟨fun j hj => absurd hj (by omega), fun j hj => absurd hj (by omega), .inl HE.out⟩, rfl, (HO.out.out.2.gr g4).gr ((Gr.refl _).drewN _), (HO.out.met.2.gr g4).gr ((Gr.refl _).drewN _), (G3.tr g4).drewN _⟩
  · rw [hth] at C86
    have hth' := hth
    simp only [GS.th, decide_eq_true_eq] at hth'
    obtain ⟨i, rfl⟩ := Int.eq_ofNat_of_zero_le hth'.1
    have hi : i < (clean L W O).n := by omega
    clear hth hth'
    obtain ⟨g, hg⟩ : ∃ g, (clean L W O).lev i = g := ⟨_, rfl⟩
    have CLi := Lib.hid (fun w' (g' : Gr w w') => CL.out i w' g' hi)
    rw [hg] at CLi
    have HGE := Lib.hid (show (clean L W O).lev ((i : Int)).toNat = g from hg)
    clear hg
    go_upto_region 6 with (first
      | (go_at_call 86; refine (C86.out).mono ?_; rintro e w4 ⟨rfl, g4⟩; obtain ⟨p0, p1, p2, _⟩ := (hX3.gr g4).c3)
      | (go_at_call 69; refine (CLi.out _ (G3.tr g4)).mono ?_; rintro e w5 ⟨rfl, g5⟩))
    have hGN := Blk.new w5 3 #[.int .i64 g]
    have g6 := ((G3.tr g4).tr g5).al (.cells #[.int .i64 g] 3)
    have O6 := ((HO.out.gr g4).gr g5).gr ((Gr.refl w5).al (.cells #[.int .i64 g] 3))
    have hX6 := ((hX3.gr g4).gr g5).al (.cells #[.int .i64 g] 3)
    have hGs : w5.heap.size ∉ sb (.slice va (clean L W O).n vc) := fun hm => by have := ((HO.out.gr g4).gr g5).out.2.inn _ hm; omega
    clear x0 x1 x2 xf p0 p1 p2 g4 g5 hX3 HOM o1 m1
    generalize w5.alloc (.cells #[.int .i64 g] 3) = W6 at *
    generalize w5.heap.size = GN at *
    obtain ⟨x0, x1, x2, xf⟩ := hX6.c3
    have C70 := Lib.hid (road87 GN O1 MT w.heap.size _ L W O W6 i _ _ (bet_on w _ L W O HG.out GN O1 MT g _ (fillF eff)) g6.size_le ⟨_, O6, g6, hGN, hGs, by simp [sb]⟩)
    go_upto_region 7 with (go_at_call 70; refine (C70.out).mono ?_; rintro e w7 ⟨k, rfl, hno, hon, hend⟩; obtain ⟨v2, hw, ho, hm, g7⟩ := walk2_of hno hon hend; clear hno hon hend; obtain ⟨p1, _⟩ := ho.1.c1; obtain ⟨p2, _⟩ := hm.1.c1; have HF := Lib.hid (And.intro hw (And.intro ho.2 (And.intro hm.2 g7))); obtain ⟨a2, c2, rfl, _, _⟩ := hm.2.len; clear hw ho hm g7)
    go_quiet (fail)
    go_wp2_with fail
    go_ret2
    rw [HGE.out]
    exact ⟨k, _, _, HF.out.1, rfl, HF.out.2.1.gr ((Gr.refl _).drewN _), HF.out.2.2.1.gr ((Gr.refl _).drewN _), HF.out.2.2.2.drewN _⟩
set_option maxRecDepth 100000 in
theorem gworse (gv : Value) (L W O eff : List Int) (ev : Value) (t : Int) (w : World) (h : GV w gv L W O) (he : Rd w ev eff) : Calls Try.prog 34 #[gv, ev, .int .i64 t] w (Walk2 w (clean L W O) (worU (clean L W O)) (worP (clean L W O)) (fillF eff) t) := by
  have HG := Lib.hid h
  obtain ⟨vl, vw, vo, rfl, ⟨al, cl, rfl, hl1, hl2, hl⟩, ⟨aw, cw, rfl, hw1, hw2, hw⟩, ⟨ao, co, rfl, ho1, ho2, ho⟩⟩ := h
  have hn64 := (clean_ok L W O).n64
  have hB := Blk.new w 25 #[.slice al L.length cl, .slice aw W.length cw, .slice ao O.length co]
  have g1 := (Gr.refl w).al (.cells #[.slice al L.length cl, .slice aw W.length cw, .slice ao O.length co] 25)
  have C85 := Lib.hid (gfilled _ L W O eff ev _ (HG.out.gr g1) (he.gr g1))
  obtain ⟨ae, ce, rfl, he1, he2⟩ := he.hd
  clear hl hw ho he
  go_enter Try.func34, Try.ntmps34
  go_upto_region 1 with fail
  generalize w.alloc (.cells #[.slice al L.length cl, .slice aw W.length cw, .slice ao O.length co] 25) = W1 at *
  obtain ⟨X, hX⟩ : ∃ X, w.heap.size = X := ⟨_, rfl⟩
  rw [hX] at hB ⊢
  obtain ⟨x0, x1, x2, xf⟩ := hB.c3
  go_upto_region 3 with (go_at_call 85; refine (C85.out).mono ?_; rintro e w2 ⟨v, rfl, sv, bv, g2⟩; obtain ⟨va, vc, rfl, hv1, hv2⟩ := sv.hd)
  have b1 := (Blk.new w2 22 #[.slice va (clean L W O).n vc]).al (.cells #[.slice none 0 0] 22)
  have b2 := Blk.new (w2.alloc (.cells #[.slice va (clean L W O).n vc] 22)) 22 #[.slice none 0 0]
  rw [World.size_alloc] at b2
  have g3 := ((Gr.refl w2).al (.cells #[.slice va (clean L W O).n vc] 22)).al (.cells #[.slice none 0 0] 22)
  have G3 := (g1.tr g2).tr g3
  have hX3 := (hB.gr g2).gr g3
  have hw2 : w.heap.size ≤ w2.heap.size := (g1.tr g2).size_le
  have HOM : OM ((w2.alloc (.cells #[.slice va (clean L W O).n vc] 22)).alloc (.cells #[.slice none 0 0] 22)) w.heap.size w2.heap.size (w2.heap.size + 1) (.slice va (clean L W O).n vc) (.slice none 0 0) (clean L W O).n (fillF eff) [] := by
    refine ⟨⟨b1, sv.gr g3⟩, ⟨b2, Sl.nil _ _ _⟩, by simp [Disj, sb], by omega, fun y hy => ?_⟩
    simp only [List.mem_cons, List.mem_append] at hy
    have := g1.size_le
    rcases hy with rfl | rfl | hy | hy
    · omega
    · omega
    · have := bv y hy; omega
    · simp [sb] at hy
  clear x0 x1 x2 xf C85 hB g1 g2 g3 sv bv b1 b2
  generalize (w2.alloc (.cells #[.slice va (clean L W O).n vc] 22)).alloc (.cells #[.slice none 0 0] 22) = W3 at *
  generalize w2.heap.size = O1 at *
  obtain ⟨MT, hMT⟩ : ∃ MT, O1 + 1 = MT := ⟨_, rfl⟩
  rw [hMT] at HOM ⊢
  obtain ⟨x0, x1, x2, xf⟩ := hX3.c3
  have C70 := Lib.hid (road90 X O1 MT w.heap.size _ L W O W3 t _ _ (wor_on w L W O al aw ao cl cw co HG.out X O1 MT _ (fillF eff)) G3.size_le ⟨_, HOM, G3, hX3⟩)
  clear HOM
  go_upto_region 4 with (go_at_call 70; refine (C70.out).mono ?_; rintro e w7 ⟨k, rfl, hno, hon, hend⟩; obtain ⟨v2, hw, ho, hm, g7⟩ := walk2_of hno hon hend; clear hno hon hend; obtain ⟨p1, _⟩ := ho.1.c1; obtain ⟨p2, _⟩ := hm.1.c1; have HF := Lib.hid (And.intro hw (And.intro ho.2 (And.intro hm.2 g7))); obtain ⟨a2, c2, rfl, _, _⟩ := hm.2.len; clear hw ho hm g7)
  go_quiet (fail)
  go_wp2_with fail
  go_ret2
  exact ⟨k, _, _, HF.out.1, rfl, HF.out.2.1.gr ((Gr.refl _).drewN _), HF.out.2.2.1.gr ((Gr.refl _).drewN _), HF.out.2.2.2.drewN _⟩
end Go.Proofs.Ytkkobbomipcpoaa
