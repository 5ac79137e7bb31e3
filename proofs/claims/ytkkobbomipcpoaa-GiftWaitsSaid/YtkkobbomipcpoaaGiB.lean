/- Chapter 25 (gift): Givers of the program, for every graph. -/
import Derived.Test.YtkkobbomipcpoaaGiA
namespace Go.Proofs.Ytkkobbomipcpoaa
open Go.RowKit
set_option linter.unusedVariables false
set_option maxHeartbeats 2000000
theorem giv_no (x : Nat) (t : Int) (O1 TV FR : Nat) (w : World) (hT : Blk w TV 3 #[.int .i64 t]) (hx : (x : Int) ≠ t) :
    Calls Try.prog 72 #[.int .i64 x, .pointer (some ⟨TV, 0, none⟩), .pointer (some ⟨O1, 0, none⟩), .pointer (some ⟨FR, 0, none⟩)] w fun e w' => e = .returned (.bool true) ∧ w = w' := by
  obtain ⟨c1, _⟩ := hT.c1
  have e1 : ((x : Int) == t) = false := by simpa using hx
  have e2 : ((x : Int) != t) = true := by simpa using hx
  go_enter Try.func72, Try.ntmps72
  go_wp2_with fail
  go_ret
  exact ⟨rfl, rfl⟩
theorem giv_yes (x : Nat) (fr : Int) (O1 TV FR : Nat) (v : Value) (zs : List Int) (w : World) (hO : VarAt w O1 v zs) (hT : Blk w TV 3 #[.int .i64 x]) (hF : Blk w FR 3 #[.int .i64 fr]) (hTs : TV ∉ sb v) (hl : zs.length < 1000) :
    Calls Try.prog 72 #[.int .i64 x, .pointer (some ⟨TV, 0, none⟩), .pointer (some ⟨O1, 0, none⟩), .pointer (some ⟨FR, 0, none⟩)] w fun e w' => e = .returned (.bool false) ∧ ∃ v', VarAt w' O1 v' (zs ++ [fr]) ∧ Ch (O1 :: sb v) w w' ∧ Foot w (sb v) (sb v') := by
  obtain ⟨c1, c2⟩ := hO.1.c1
  obtain ⟨t1, _⟩ := hT.c1
  obtain ⟨f1, _⟩ := hF.c1
  have hne := hO.2.ne hO.1 (by decide)
  have hv := hO.2
  have HO := Lib.hid (And.intro hO (And.intro hT (hO.1.dif hT (by decide))))
  have e1 : ((x : Int) == (x : Int)) = true := by simp
  have e2 : ((x : Int) != (x : Int)) = false := by simp
  clear hO hT hF
  go_enter Try.func72, Try.ntmps72
  go_wp2_with (at_builtin; refine wpList_sl1 el22 .i64 (.tmp 9) (.tmp 11) _ _ _ _ _ rfl rfl rfl rfl hv ?_ ?_ ?_)
  · omega
  · omega
  intro v' w' hv' hch hf
  obtain ⟨d1, d2⟩ := (HO.out.1.1.ch hch hne).c1
  obtain ⟨t2, _⟩ := (HO.out.2.1.ch hch hTs).c1
  have hOT := HO.out.2.2
  have HV := Lib.hid (And.intro (VarAt.app HO.out.1.1 hne hv' hch) (And.intro hch hf))
  obtain ⟨a', cp', rfl, _, _⟩ := hv'.len
  clear c1 c2 t1 f1 hv' hch hf
  go_wp2_with fail
  go_ret
  have hlen : (zs ++ [fr]).length = zs.length + 1 := by simp
  obtain ⟨k1, k2, k3⟩ := HV.out
  rw [hlen] at k1 k3
  refine ⟨rfl, _, k1, ?_, k3⟩
  exact (k2.wide (by simp +contextual)).st (p := ⟨O1, 0, none⟩) (.inl (by simp)) _
/-- Who gives to t, of the first k. -/
def GS.gvI (s : GS) (t : Int) (i : Nat) : Bool := s.th t && gives s.n s.next i t
def GS.givL (s : GS) (t : Int) : Nat → List Int
  | 0 => []
  | k + 1 => if s.gvI t k then GS.givL s t k ++ [(k : Int)] else GS.givL s t k
theorem GS.givL_le (s : GS) (t : Int) : ∀ k, (s.givL t k).length ≤ k
  | 0 => by simp [GS.givL]
  | k + 1 => by
    have := s.givL_le t k
    unfold GS.givL
    split <;> simp <;> omega
/-- What is carried along a road of Givers. -/
def GivI (w : World) (O1 TV FR X : Nat) (t fr : Int) (base : List Int) (G : Array Value) (zs : List Int) (w' : World) : Prop :=
  ∃ v, VarAt w' O1 v (if t ∈ zs then base ++ [fr] else base) ∧ (∀ b ∈ sb v, w.heap.size ≤ b) ∧ TV ∉ sb v ∧ FR ∉ sb v ∧ Blk w' TV 3 #[.int .i64 t] ∧ Blk w' FR 3 #[.int .i64 fr] ∧ Gr w w' ∧ Blk w' X 25 G
theorem giv_on (w : World) (gv : Value) (L W O : List Int) (hg : GV w gv L W O) (O1 TV FR X : Nat) (t fr : Int) (base : List Int) (G : Array Value) (hl : base.length < 500) (hO1 : w.heap.size ≤ O1) :
    OnG 72 (fun x => #[.int .i64 x, .pointer (some ⟨TV, 0, none⟩), .pointer (some ⟨O1, 0, none⟩), .pointer (some ⟨FR, 0, none⟩)]) w.heap.size gv L W O (fun _ x => decide (x ≠ t)) (GivI w O1 TV FR X t fr base G) := by
  refine ⟨?_, ?_, ?_, ?_⟩
  · rintro zs w' ⟨v, h1, h2, h3, h4, h5, h6, h7, h8⟩; exact hg.gr h7
  · rintro zs w' w'' ⟨v, h1, h2, h3, h4, h5, h6, h7, h8⟩ g; exact ⟨v, h1.gr g, h2, h3, h4, h5.gr g, h6.gr g, h7.tr g, h8.gr g⟩
  · rintro zs w' M cs p u ⟨v, h1, h2, h3, h4, h5, h6, h7, h8⟩ hM hB
    exact ⟨v, h1.st hM (by decide) (by decide) p u, h2, h3, h4, h5.far (p := ⟨M, p, none⟩) (h5.dif hM (by decide)) u, h6.far (p := ⟨M, p, none⟩) (h6.dif hM (by decide)) u, h7.st (p := ⟨M, p, none⟩) hB u, h8.far (p := ⟨M, p, none⟩) (h8.dif hM (by decide)) u⟩
  · rintro zs x w' hzl hx hxz ⟨v, h1, h2, h3, h4, h5, h6, h7, h8⟩
    by_cases hxt : (x : Int) = t
    · subst hxt
      rw [if_neg hxz] at h1
      refine (giv_yes x fr O1 TV FR v base w' h1 h5 h6 h3 (by omega)).mono ?_
      rintro e w'' ⟨rfl, v', k1, k2, k3⟩
      have nO : ∀ {M : Nat} {ty : TypeId} {cs : Array Value}, Blk w' M ty cs → ty ≠ 22 → M ∉ sb v → M ∉ O1 :: sb v := fun hM hty hs hm => by
        rcases List.mem_cons.1 hm with rfl | hm
        · exact h1.1.dif hM (fun e => hty e.symm) rfl
        · exact hs hm
      refine ⟨by simp, ⟨v', by simpa using k1, fun b hb => ?_, fun hb => ?_, fun hb => ?_, h5.ch k2 (nO h5 (by decide) h3), h6.ch k2 (nO h6 (by decide) h4), h7.chs k2 (fun y hy => ?_), h8.ch k2 (nO h8 (by decide) (h1.2.ne h8 (by decide)))⟩, fun M ty cs hty hM => hM.ch k2 (nO hM (by rcases hty with rfl | rfl <;> decide) (h1.2.ne hM (by rcases hty with rfl | rfl <;> decide)))⟩
      · rcases k3 b hb with h | h
        · exact h2 b h
        · have := h7.size_le; omega
      · rcases k3 TV hb with h | h
        · exact h3 h
        · have := h5.lt; omega
      · rcases k3 FR hb with h | h
        · exact h4 h
        · have := h6.lt; omega
      · rcases List.mem_cons.1 hy with rfl | hy
        · exact hO1
        · exact h2 y hy
    · refine (giv_no x t O1 TV FR w' h5 hxt).mono ?_
      rintro e w'' ⟨rfl, rfl⟩
      have ht : t ∈ zs ++ [(x : Int)] ↔ t ∈ zs := by simp; intro e; exact absurd e.symm hxt
      exact ⟨by simp [hxt], ⟨v, by simpa only [ht] using h1, h2, h3, h4, h5, h6, h7, h8⟩, fun _ _ _ _ h => h⟩
set_option maxRecDepth 100000 in
theorem ggivers (gv : Value) (L W O : List Int) (t : Int) (w : World) (h : GV w gv L W O) : Calls Try.prog 18 #[gv, .int .i64 t] w (NewL w ((clean L W O).givL t (clean L W O).n)) := by
  have HG := Lib.hid h
  obtain ⟨vl, vw, vo, rfl, ⟨al, cl, rfl, hl1, hl2, hl⟩, ⟨aw, cw, rfl, hw1, hw2, hw⟩, ⟨ao, co, rfl, ho1, ho2, ho⟩⟩ := h
  clear hl hw ho
  have hok := clean_ok L W O
  have hn64 := hok.n64
  have CT := Lib.hid (fun w' (g' : Gr w w') => gthreads _ L W O w' (HG.out.gr g'))
  have hB := Blk.new w 25 #[.slice al L.length cl, .slice aw W.length cw, .slice ao O.length co]
  have g1 := (Gr.refl w).al (.cells #[.slice al L.length cl, .slice aw W.length cw, .slice ao O.length co] 25)
  have hs1 : (w.alloc (.cells #[.slice al L.length cl, .slice aw W.length cw, .slice ao O.length co] 25)).heap.size = w.heap.size + 1 := by rw [World.size_alloc]
  go_enter Try.func18, Try.ntmps18
  go_upto_region 2 with fail
  generalize w.alloc (.cells #[.slice al L.length cl, .slice aw W.length cw, .slice ao O.length co] 25) = W1 at *
  have hT := (Blk.new W1 3 #[.int .i64 t]).al (.cells #[.slice none 0 0] 22)
  have hV := Blk.new (W1.alloc (.cells #[.int .i64 t] 3)) 22 #[.slice none 0 0]
  rw [World.size_alloc, hs1] at hV
  rw [hs1] at hT
  have g2 := (g1.al (.cells #[.int .i64 t] 3)).al (.cells #[.slice none 0 0] 22)
  have hB2 := (hB.al (.cells #[.int .i64 t] 3)).al (.cells #[.slice none 0 0] 22)
  generalize (W1.alloc (.cells #[.int .i64 t] 3)).alloc (.cells #[.slice none 0 0] 22) = W2 at *
  obtain ⟨O1, hO⟩ : ∃ O1, w.heap.size + 1 + 1 = O1 := ⟨_, rfl⟩
  obtain ⟨TV, hTV⟩ : ∃ TV, w.heap.size + 1 = TV := ⟨_, rfl⟩
  obtain ⟨X, hX⟩ : ∃ X, w.heap.size = X := ⟨_, rfl⟩
  rw [hO] at hV ⊢
  rw [hTV] at hT ⊢
  rw [hX] at hB2 ⊢
  have hO1 : w.heap.size ≤ O1 := by omega
  clear hB g1 hs1 hO hTV
  obtain ⟨x0, x1, x2, xf⟩ := hB2.c3
  go_wp2_with (go_at_call 68; refine (CT.out _ g2).mono ?_; rintro e w3 ⟨rfl, g3⟩)
  have HI := Lib.hid (And.intro (hB2.gr g3) (And.intro (hV.gr g3) (And.intro (g2.tr g3) (hT.gr g3))))
  clear hB2 hV g2 g3 x0 x1 x2 xf hT
  generalize hnn : (clean L W O).n = n at *
  go_loopw [9] (fun i wr => ∃ (k : Nat) (v : Value), k ≤ n ∧ i = .int .i64 k ∧ VarAt wr O1 v ((clean L W O).givL t k) ∧ (∀ b ∈ sb v, w.heap.size ≤ b) ∧ TV ∉ sb v ∧ Gr w wr ∧ Blk wr X 25 #[.slice al L.length cl, .slice aw W.length cw, .slice ao O.length co] ∧ Blk wr TV 3 #[.int .i64 t]) (fun i _ => n - (intOf i).toNat)
  case atStart => exact ⟨0, _, by omega, rfl, ⟨HI.out.2.1, Sl.nil _ _ _⟩, by simp [sb], by simp [sb], HI.out.2.2.1, HI.out.1, HI.out.2.2.2⟩
  case round =>
    clear HI
    obtain ⟨k, v, hk, rfl, hv, hsb, hTs, gr, hXb, hTb⟩ := hrel
    by_cases hlt : k < n
    · have hd : decide ((k : Int) < (n : Int)) = true := by simpa using hlt
      have hle := (clean L W O).givL_le t k
      have HS := Lib.hid (show (clean L W O).givL t (k + 1) = if (clean L W O).gvI t k then (clean L W O).givL t k ++ [(k : Int)] else (clean L W O).givL t k from rfl)
      go_upto_region 5 with fail
      have hFR := Blk.new wr 3 #[.int .i64 (k : Int)]
      have g4 := (Gr.refl wr).al (.cells #[.int .i64 (k : Int)] 3)
      have hFs : wr.heap.size ∉ sb v := fun hm => by have := hv.2.inn _ hm; omega
      have hFw : w.heap.size ≤ wr.heap.size := gr.size_le
      have hX5 := hXb.gr g4
      have HI := Lib.hid (show GivI w O1 TV wr.heap.size X t k ((clean L W O).givL t k) #[.slice al L.length cl, .slice aw W.length cw, .slice ao O.length co] [] (wr.alloc (.cells #[.int .i64 (k : Int)] 3)) from ⟨v, by simpa using hv.gr g4, hsb, hTs, hFs, hTb.gr g4, hFR, gr.tr g4, hX5⟩)
      have hsz : w.heap.size ≤ (wr.alloc (.cells #[.int .i64 (k : Int)] 3)).heap.size := (gr.tr g4).size_le
      clear hv hsb gr hXb hTb g4 hFs
      generalize wr.alloc (.cells #[.int .i64 (k : Int)] 3) = W5 at *
      generalize wr.heap.size = FR at *
      have C := Lib.hid (road72 TV O1 FR w.heap.size _ L W O W5 k _ _ (giv_on w _ L W O HG.out O1 TV FR X t k ((clean L W O).givL t k) #[.slice al L.length cl, .slice aw W.length cw, .slice ao O.length co] (by omega) hO1) hsz HI.out)
      obtain ⟨x0, x1, x2, xf⟩ := hX5.c3
      obtain ⟨f0, _⟩ := hFR.c1
      clear hX5 hFR HI
      generalize (clean L W O).givL t k = zs at *
      go_wp2_with (go_at_call 70; refine (C.out).mono ?_; rintro e w6 ⟨r, rfl, hno, hon, hend⟩)
      have hfin : GivI w O1 TV FR X t k zs #[.slice al L.length cl, .slice aw W.length cw, .slice ao O.length co] (if (clean L W O).gvI t k then [t] else []) w6 := by
        rcases hend with ⟨hs, hI⟩ | ⟨hns, hf, hI⟩
        · have hnot : t ∉ road (clean L W O).next k r := fun hm => by
            obtain ⟨j, hj, e⟩ := mem_road.1 hm
            have := hon j hj
            simp [e] at this
          have hg : (clean L W O).gvI t k = false := by
            unfold GS.gvI
            cases hth : (clean L W O).th t
            · rfl
            · rw [(Full.mk hs hno).gives (clean L W O).next_out (by simpa [GS.th] using hth)]
              simp [hnot]
          rw [hg]
          obtain ⟨v, h1, h2⟩ := hI
          exact ⟨v, by simpa [hnot] using h1, h2⟩
        · have ht : it (clean L W O).next k r = t := by simpa using hf
          have hth : 0 ≤ t ∧ t < ((clean L W O).n : Int) := by
            refine Classical.byContradiction fun hn => hns (.inl ?_)
            rw [ht]; exact hn
          have hg : (clean L W O).gvI t k = true := by
            unfold GS.gvI
            rw [show (clean L W O).th t = true by simpa [GS.th] using hth, (gives_iff (clean L W O).next_out k hth).2 ⟨r, ht⟩]
            rfl
          rw [hg]
          obtain ⟨v, h1, h2⟩ := hI
          have hm : t ∈ road (clean L W O).next k (r + 1) := mem_road.2 ⟨r, by omega, ht⟩
          exact ⟨v, by simpa [hm] using h1, h2⟩
      obtain ⟨v6, h1, h2, h3, h4, h5, h6, h7, h8⟩ := hfin
      go_roundw
      case rel =>
        refine ⟨k + 1, v6, by omega, by go_num, ?_, h2, h3, h7, h8, h5⟩
        rw [HS.out]
        cases hg : (clean L W O).gvI t k
        · simpa [hg] using h1
        · simpa [hg] using h1
      case measure => simp [intOf]; omega
    · obtain rfl : k = n := by omega
      have hd : decide ((k : Int) < (k : Int)) = false := by simp
      obtain ⟨a7, cp7, rfl, _, _⟩ := hv.2.len
      obtain ⟨o1, _⟩ := hv.1.c1
      go_wp2_with fail
      go_ret
      exact ⟨_, rfl, hv.2, hsb, gr⟩
end Go.Proofs.Ytkkobbomipcpoaa
