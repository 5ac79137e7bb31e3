/- Chapter 25 (gift): All and Givers of the program, for every graph. -/
import Derived.Test.YtkkobbomipcpoaaGiR
import Derived.Test.YtkkobbomipcpoaaKit7
namespace Go.Proofs.Ytkkobbomipcpoaa
open Go.RowKit
set_option linter.unusedVariables false
set_option maxHeartbeats 2000000
/-- A variable that holds a slice of numbers: block o, and the slice's own block. -/
def VarAt (w : World) (o : Nat) (v : Value) (zs : List Int) : Prop := Blk w o 22 #[v] ∧ Sl 3 .i64 w v zs
theorem VarAt.gr {w w' : World} {o : Nat} {v : Value} {zs : List Int} (h : VarAt w o v zs) (g : Gr w w') : VarAt w' o v zs := ⟨h.1.gr g, h.2.gr g⟩
theorem VarAt.st {w : World} {o : Nat} {v : Value} {zs : List Int} (h : VarAt w o v zs) {M : Nat} {t : TypeId} {cs : Array Value} (hM : Blk w M t cs) (h1 : t ≠ 22) (h2 : t ≠ 3) (p : Nat) (u : Value) : VarAt (w.setCell ⟨M, p, none⟩ u) o v zs :=
  ⟨h.1.far (p := ⟨M, p, none⟩) (h.1.dif hM (fun e => h1 e.symm)) u, h.2.ch ((Ch.refl [M] _).st (p := ⟨M, p, none⟩) (by simp) u) (fun x hx hxm => by simp at hxm; subst hxm; exact h.2.ne hM h2 hx)⟩
theorem Sl.far3 {w : World} {v : Value} {zs : List Int} (h : Sl 3 .i64 w v zs) {M : Nat} {cs : Array Value} {t : TypeId} (hM : Blk w M t cs) (ht : t ≠ 3) : M ∉ sb v := h.ne hM ht
set_option maxRecDepth 100000 in
theorem all1 (i : Nat) (O1 LV : Nat) (v : Value) (n : Nat) (f : Nat → Int) (lv : Int) (w : World) (hO : VarAt w O1 v (lst n f)) (hL : Blk w LV 3 #[.int .i64 lv]) (hi : i < n) (hn : n ≤ 64) :
    Calls Try.prog 71 #[.int .i64 i, .pointer (some ⟨O1, 0, none⟩), .pointer (some ⟨LV, 0, none⟩)] w fun e w' => e = .returned (.bool true) ∧ Sl 3 .i64 w' v (lst n (upd f i (min (f i) lv))) ∧ Ch (sb v) w w' := by
  obtain ⟨b, off, cp, rfl, h1, h2, hc, hf⟩ := hO.2.at hi
  obtain ⟨o1, _⟩ := hO.1.c1
  obtain ⟨l1, _⟩ := hL.c1
  have h0 := hO.2
  rw [show (Value.slice (some ⟨b, off, none⟩) n cp) = .slice (some ⟨b, off, none⟩) (lst n f).length cp by rw [lst_length]] at h0
  have hst := Lib.hid (fun x => h0.st i (by rw [lst_length]; exact hi) x)
  clear h0 hO hL
  have i1 : (0 : Int) ≤ (i : Int) := by omega
  have i2 : (i : Int) < (n : Int) := by omega
  have hbe : b ∈ sb (.slice (some ⟨b, off, none⟩) n cp) := by simp [sb]
  by_cases hm : lv < f i
  · rw [show min (f i) lv = lv by omega]
    generalize f i = y at *
    go_enter Try.func71, Try.ntmps71
    go_wp2_with fail
    go_region
    all_goals
      go_wp2_with fail
      go_ret
      have := hst.out lv
      rw [lst_set, lst_length] at this
      exact ⟨rfl, (this.gr ((Gr.refl _).drew)), ((Ch.refl _ _).st (p := ⟨b, off + i, none⟩) (by simp [sb]) _).drew⟩
  · have hm' : ¬ lv < f i := hm
    rw [show min (f i) lv = f i by omega]
    obtain ⟨y, hy⟩ : ∃ y, f i = y := ⟨_, rfl⟩
    rw [hy] at hc hm' hm
    have HY := Lib.hid hy
    clear hy
    go_enter Try.func71, Try.ntmps71
    go_wp2_with fail
    go_region
    all_goals
      go_wp2_with fail
      go_ret
      have := hst.out y
      rw [lst_set, lst_length] at this
      rw [HY.out]
      exact ⟨rfl, (this.gr ((Gr.refl _).drew)), ((Ch.refl _ _).st (p := ⟨b, off + i, none⟩) (by simp [sb]) _).drew⟩
theorem keep5 {w : World} {o x : Nat} {v a b c : Value} (h1 : Blk w o 22 #[v]) (h2 : Blk w x 25 #[a, b, c]) : w.cell? ⟨o, 0, none⟩ = some v ∧ w.frozen? ⟨o, 0, none⟩ = false ∧ w.cell? ⟨x, 0, none⟩ = some a ∧ w.cell? ⟨x, 1, none⟩ = some b ∧ w.cell? ⟨x, 2, none⟩ = some c :=
  ⟨h1.c1.1, h1.c1.2, h2.c3.1, h2.c3.2.1, h2.c3.2.2.1⟩
theorem VarAt.app {w4 w5 : World} {o : Nat} {v v5 : Value} {zs' : List Int} (ho : Blk w4 o 22 #[v]) (hne : o ∉ sb v) (hv5 : Sl 3 .i64 w5 v5 zs') (ch5 : Ch (sb v) w4 w5) : VarAt (w5.setCell ⟨o, 0, none⟩ v5) o v5 zs' := by
  have ho5 := ho.ch ch5 hne
  refine ⟨ho5.st 0 v5, hv5.ch ((Ch.refl [o] _).st (p := ⟨o, 0, none⟩) (by simp) v5) (fun x hx hxm => ?_)⟩
  simp at hxm
  subst hxm
  exact hv5.ne ho5 (by decide) hx
/-- The least of v0 and the levels of the first k givers. -/
def bestN (gv : Nat → Bool) (lev : Nat → Int) (v0 : Int) : Nat → Int
  | 0 => v0
  | k + 1 => if gv k then min (bestN gv lev v0 k) (lev k) else bestN gv lev v0 k
def GS.gv (s : GS) (t : Nat) (i : Nat) : Bool := gives s.n s.next i t
def GS.all (s : GS) : List Int := lst s.n fun t => bestN (s.gv t) s.lev (s.lev t) s.n
theorem lst_congr {n : Nat} {f g : Nat → Int} (h : ∀ i, i < n → f i = g i) : lst n f = lst n g := List.map_congr_left fun i hi => h i (List.mem_range.1 hi)
set_option maxRecDepth 100000 in
theorem gall (gv : Value) (L W O : List Int) (w : World) (h : GV w gv L W O) : Calls Try.prog 16 #[gv] w (NewL w (clean L W O).all) := by
  have HG := Lib.hid h
  obtain ⟨vl, vw, vo, rfl, ⟨al, cl, rfl, hl1, hl2, hl⟩, ⟨aw, cw, rfl, hw1, hw2, hw⟩, ⟨ao, co, rfl, ho1, ho2, ho⟩⟩ := h
  clear hl hw ho
  have hok := clean_ok L W O
  have hn64 := hok.n64
  have CL := Lib.hid (fun (i : Nat) w' (g' : Gr w w') (hi : i < (clean L W O).n) => glevel _ L W O i w' (HG.out.gr g') hi)
  have CT := Lib.hid (fun w' (g' : Gr w w') => gthreads _ L W O w' (HG.out.gr g'))
  have HN := Lib.hid (show (clean L W O).all = lst (clean L W O).n fun t => bestN ((clean L W O).gv t) (clean L W O).lev ((clean L W O).lev t) (clean L W O).n from rfl)
  have hB := Blk.new w 25 #[.slice al L.length cl, .slice aw W.length cw, .slice ao O.length co]
  have g1 := (Gr.refl w).al (.cells #[.slice al L.length cl, .slice aw W.length cw, .slice ao O.length co] 25)
  go_enter Try.func16, Try.ntmps16
  go_upto_region 1 with fail
  generalize w.alloc (.cells #[.slice al L.length cl, .slice aw W.length cw, .slice ao O.length co] 25) = W1 at *
  obtain ⟨X, hX⟩ : ∃ X, w.heap.size = X := ⟨_, rfl⟩
  rw [hX] at hB ⊢
  have hV := Blk.new W1 22 #[.slice none 0 0]
  have g2 := g1.al (.cells #[.slice none 0 0] 22)
  have hB2 := hB.al (.cells #[.slice none 0 0] 22)
  have hO1 : w.heap.size ≤ W1.heap.size := g1.size_le
  go_upto_region 2 with fail
  generalize W1.alloc (.cells #[.slice none 0 0] 22) = W2 at *
  generalize W1.heap.size = O1 at *
  clear hB g1
  obtain ⟨x0, x1, x2, xf⟩ := hB2.c3
  go_wp2_with (go_at_call 68; refine (CT.out _ g2).mono ?_; rintro e w3 ⟨rfl, g3⟩)
  have HI := Lib.hid (And.intro (hB2.gr g3) (And.intro (hV.gr g3) (g2.tr g3)))
  clear hB2 hV g2 g3 x0 x1 x2 xf
  generalize hnn : (clean L W O).n = n at *
  go_loopw [9] (fun i wr => ∃ (k : Nat) (v : Value), k ≤ n ∧ i = .int .i64 k ∧ VarAt wr O1 v (lst k (clean L W O).lev) ∧ (∀ b ∈ sb v, w.heap.size ≤ b) ∧ Gr w wr ∧ Blk wr X 25 #[.slice al L.length cl, .slice aw W.length cw, .slice ao O.length co]) (fun i _ => n - (intOf i).toNat)
  case atStart => exact ⟨0, _, by omega, rfl, ⟨HI.out.2.1, Sl.nil _ _ _⟩, by simp [sb], HI.out.2.2, HI.out.1⟩
  case round =>
    obtain ⟨k, v, hk, rfl, hv, hsb, gr, hXb⟩ := hrel
    clear HI
    by_cases hlt : k < n
    · have hd : decide ((k : Int) < (n : Int)) = true := by simpa using hlt
      have C := Lib.hid (CL.out k wr.drew gr.drew hlt)
      obtain ⟨x0, x1, x2, xf⟩ := hXb.c3
      obtain ⟨o1, of⟩ := hv.1.c1
      have HS := Lib.hid (lst_succ k (clean L W O).lev)
      have hlen := lst_length k (clean L W O).lev
      generalize (clean L W O).lev k = z at *
      generalize lst k (clean L W O).lev = zs at *
      have hOs := hv.2.ne hv.1 (by decide)
      have hXs := hv.2.ne hXb (by decide)
      have hXO : X ≠ O1 := hXb.dif hv.1 (by decide)
      have HV := Lib.hid (And.intro hv hXb)
      go_upto_region 5 with fail
      go_region_law (first
        | (go_simp; go_at_call 69; refine (C.out).mono ?_; rintro e w4 ⟨rfl, g4⟩; have k4 := keep5 (HV.out.1.1.drew.gr g4) (HV.out.2.drew.gr g4); have k5 := keep5 ((HV.out.1.1.drew.gr g4).al (.cells #[.int .i64 z] 3)) ((HV.out.2.drew.gr g4).al (.cells #[.int .i64 z] 3)); obtain ⟨p0, p1, p2, p3, p4⟩ := k4; obtain ⟨q0, q1, q2, q3, q4⟩ := k5)
        | (refine step_sl1 el22 .i64 (.tmp 12) (.tmp 16) v zs z _ w4 rfl rfl rfl rfl ((HV.out.1.2.gr ((Gr.refl _).drew)).gr g4) (by omega) (by omega) ?_; intro v5 w5 hv5 ch5 hf5; obtain ⟨a5, cp5, rfl, h51, h52⟩ := hv5.len; have k6 := keep5 ((HV.out.1.1.drew.gr g4).ch ch5 hOs) ((HV.out.2.drew.gr g4).ch ch5 hXs); obtain ⟨r0, r1, r2, r3, r4⟩ := k6))
      all_goals
        go_wp2_with fail
        go_roundw
        case rel =>
          rw [show (zs ++ [z]).length = k + 1 by simp; omega] at hv5 hf5
          have G4 := gr.drew.tr g4
          refine ⟨k + 1, .slice a5 (k + 1) cp5, by omega, by go_num, ?_, fun b hb => ?_, (G4.chs ch5 hsb).st (p := ⟨O1, 0, none⟩) hO1 _, ((HV.out.2.drew.gr g4).ch ch5 hXs).far (p := ⟨O1, 0, none⟩) hXO _⟩
          · rw [HS.out]
            exact VarAt.app (HV.out.1.1.drew.gr g4) hOs hv5 ch5
          · rcases hf5 b hb with hb | hb
            · exact hsb b hb
            · have := G4.size_le; omega
        case measure => simp [intOf]; omega
    · obtain rfl : k = n := by omega
      have hd : decide ((k : Int) < (k : Int)) = false := by simp
      obtain ⟨x0, x1, x2, xf⟩ := hXb.c3
      go_wp2_with (go_at_call 68; refine (CT.out _ gr).mono ?_; rintro e w3 ⟨rfl, g3⟩)
      have HI := Lib.hid (And.intro (hv.gr g3) (And.intro hsb (And.intro (gr.tr g3) (hXb.gr g3))))
      clear x0 x1 x2 xf hv hsb gr hXb g3 hd
      go_loopw [21] (fun i wr => ∃ (q : Nat) (v : Value), q ≤ k ∧ i = .int .i64 q ∧ VarAt wr O1 v (lst k fun t => bestN ((clean L W O).gv t) (clean L W O).lev ((clean L W O).lev t) q) ∧ (∀ b ∈ sb v, w.heap.size ≤ b) ∧ Gr w wr ∧ Blk wr X 25 #[.slice al L.length cl, .slice aw W.length cw, .slice ao O.length co]) (fun i _ => k - (intOf i).toNat)
      case atStart => exact ⟨0, v, by omega, rfl, HI.out⟩
      case round =>
        clear HI
        obtain ⟨q, v, hq, rfl, hv, hsb, gr, hXb⟩ := hrel
        by_cases hlt : q < k
        · have hd : decide ((q : Int) < (k : Int)) = true := by simpa using hlt
          obtain ⟨x0, x1, x2, xf⟩ := hXb.c3
          have C := Lib.hid (CL.out q wr gr hlt)
          go_upto_region 11 with (go_at_call 69; refine (C.out).mono ?_; rintro e w4 ⟨rfl, g4⟩)
          have hLV := Blk.new w4 3 #[.int .i64 ((clean L W O).lev q)]
          have g5 := (gr.tr g4).al (.cells #[.int .i64 ((clean L W O).lev q)] 3)
          have hv5 := (hv.gr g4).gr ((Gr.refl w4).al (.cells #[.int .i64 ((clean L W O).lev q)] 3))
          have hX5 := (hXb.gr g4).al (.cells #[.int .i64 ((clean L W O).lev q)] 3)
          have hLs : w4.heap.size ∉ sb v := fun hm => by have := (hv.gr g4).2.inn _ hm; omega
          have hLw : w.heap.size ≤ w4.heap.size := (gr.tr g4).size_le
          clear x0 x1 x2 xf C hv gr hXb g4
          generalize w4.alloc (.cells #[.int .i64 ((clean L W O).lev q)] 3) = W5 at *
          generalize w4.heap.size = LV at *
          obtain ⟨x0, x1, x2, xf⟩ := hX5.c3
          have H : OnG 71 (fun x => #[.int .i64 x, .pointer (some ⟨O1, 0, none⟩), .pointer (some ⟨LV, 0, none⟩)]) w.heap.size (.agg #[.slice al L.length cl, .slice aw W.length cw, .slice ao O.length co]) L W O (fun _ _ => true)
              (fun zs w' => VarAt w' O1 v (lst k fun t => if (t : Int) ∈ zs then min (bestN ((clean L W O).gv t) (clean L W O).lev ((clean L W O).lev t) q) ((clean L W O).lev q) else bestN ((clean L W O).gv t) (clean L W O).lev ((clean L W O).lev t) q) ∧ Blk w' LV 3 #[.int .i64 ((clean L W O).lev q)] ∧ Gr w w' ∧ Blk w' X 25 #[.slice al L.length cl, .slice aw W.length cw, .slice ao O.length co]) := by
            refine ⟨fun zs w' h => HG.out.gr h.2.2.1, fun zs w' w'' h g' => ⟨h.1.gr g', h.2.1.gr g', h.2.2.1.tr g', h.2.2.2.gr g'⟩, fun zs w' M cs p u h hM hB => ⟨h.1.st hM (by decide) (by decide) p u, h.2.1.far (p := ⟨M, p, none⟩) (h.2.1.dif hM (by decide)) u, h.2.2.1.st (p := ⟨M, p, none⟩) hB u, h.2.2.2.far (p := ⟨M, p, none⟩) (h.2.2.2.dif hM (by decide)) u⟩, fun zs x w' hl hx hxz h => ?_⟩
            rw [hnn] at hx
            refine (all1 x O1 LV v k _ _ w' h.1 h.2.1 hx hn64).mono ?_
            rintro e w'' ⟨rfl, sl, ch⟩
            refine ⟨rfl, ⟨⟨h.1.1.ch ch (h.1.2.ne h.1.1 (by decide)), ?_⟩, h.2.1.ch ch hLs, h.2.2.1.chs ch hsb, h.2.2.2.ch ch (h.1.2.ne h.2.2.2 (by decide))⟩, fun M t cs ht hM => hM.ch ch (h.1.2.ne hM (by rcases ht with rfl | rfl <;> decide))⟩
            rw [lst_congr (g := upd (fun t => if (t : Int) ∈ zs then min (bestN ((clean L W O).gv t) (clean L W O).lev ((clean L W O).lev t) q) ((clean L W O).lev q) else bestN ((clean L W O).gv t) (clean L W O).lev ((clean L W O).lev t) q) x (min (if (x : Int) ∈ zs then min (bestN ((clean L W O).gv x) (clean L W O).lev ((clean L W O).lev x) q) ((clean L W O).lev q) else bestN ((clean L W O).gv x) (clean L W O).lev ((clean L W O).lev x) q) ((clean L W O).lev q)))]
            · exact sl
            · intro j hj
              unfold upd
              by_cases hjx : j = x
              · subst hjx
                simp [hxz]
              · have : (j : Int) ≠ (x : Int) := by omega
                simp [hjx, this]
          have C := Lib.hid (road71 O1 LV w.heap.size _ L W O W5 q _ _ H g5.size_le ⟨by simpa using hv5, hLV, g5, hX5⟩)
          clear H hv5 hLV hX5
          go_wp2_with (go_at_call 70; refine (C.out).mono ?_; rintro e w6 ⟨r, rfl, hno, hon, hend⟩; obtain ⟨hs, hI⟩ | ⟨_, hf, _⟩ := hend; rotate_left; cases hf)
          go_roundw
          case rel =>
            refine ⟨q + 1, v, by omega, by go_num, ?_, hsb, hI.2.2.1, hI.2.2.2⟩
            have hv6 := hI.1
            rw [lst_congr (g := fun t => bestN ((clean L W O).gv t) (clean L W O).lev ((clean L W O).lev t) (q + 1))] at hv6
            · exact hv6
            · intro t ht
              have hg : (clean L W O).gv t q = decide ((t : Int) ∈ road (clean L W O).next q r) := (Full.mk hs hno).gives (clean L W O).next_out (by rw [hnn]; omega)
              show _ = (if (clean L W O).gv t q then _ else _)
              rw [hg]
              by_cases hm : (t : Int) ∈ road (clean L W O).next q r <;> simp [hm]
          case measure => simp [intOf]; omega
        · obtain rfl : q = k := by omega
          have hd : decide ((q : Int) < (q : Int)) = false := by simp
          obtain ⟨a7, cp7, rfl, _, _⟩ := hv.2.hd
          obtain ⟨o1, _⟩ := hv.1.c1
          go_wp2_with fail
          go_ret
          rw [HN.out]
          exact ⟨_, rfl, hv.2, hsb, gr⟩
end Go.Proofs.Ytkkobbomipcpoaa
