/- The walk of the law ShelfOnce of chapter 16 (shelf): it returns true for every input, and changes nothing that was there. -/
import Derived.Test.YtfppmdnpjihcpaaShelfOnceP
namespace Go.Proofs.Ytfppmdnpjihcpaa
open Go.RowKit LinesP
set_option linter.unusedVariables false
theorem el26 : Elem Try.prog 26 4 (.bool false) 1 1 := ⟨Try.underlying26, by kernel_rfl, rfl, by decide⟩
/-- 200 marks. -/
def marks (gn : Nat → Bool) : Array Value := recs 200 1 fun i _ => .bool (gn i)
theorem marks_get (gn : Nat → Bool) (i : Nat) (h : i < 200) : (marks gn)[i]? = some (.bool (gn i)) := by
  have := recs_get 200 1 (fun i _ => .bool (gn i)) i 0 h (by omega)
  simp only [Nat.mul_one, Nat.add_zero] at this
  exact this
theorem marks_set (gn : Nat → Bool) (i : Nat) (b : Bool) : (marks gn).setIfInBounds i (.bool b) = marks (upd gn i b) := by
  have := recs_set 200 1 (fun i _ => .bool (gn i)) i 0 (.bool b) (by omega)
  simp only [Nat.mul_one, Nat.add_zero] at this
  unfold marks
  rw [this]
  refine recs_congr _ _ _ _ fun j k _ hk => ?_
  obtain rfl : k = 0 := by omega
  unfold setG upd
  by_cases h : j = i
  · rw [if_pos ⟨h, rfl⟩, if_pos h]
  · rw [if_neg (fun e => h e.1), if_neg h]
/-- Both shelves, and the marks in block G, behind i calls. -/
def OnceAt (w wr : World) (g h G cap i n top : Nat) : Prop := Gr w wr ∧ w.heap.size ≤ G ∧ n ≤ i ∧ ∃ gn ws cl on, Both w.heap.size wr g h cap ws cl on ∧ Blk wr G 4 (marks gn) ∧ Once n top gn ws
theorem both_ch {B : Nat} {w w' : World} {g h cap : Nat} {ws : List Int} {cl on : Bool} {G : Nat} {cs : Array Value} (b : Both B w g h cap ws cl on) (hG : Blk w G 4 cs) (k : Ch [G] w w') : Both B w' g h cap ws cl on := by
  obtain ⟨v, c, v2, h1, h2, h3, h4, h5⟩ := b
  have n1 : G ∉ shFoot g v c := by
    intro hm
    simp only [shFoot, List.mem_cons, List.mem_append] at hm
    rcases hm with rfl | hm | hm
    · have := h1.hdr; unfold Blk at this hG; rw [this] at hG; simp at hG
    · exact h1.words.ne hG (by decide) hm
    · cases c with
      | on X => simp [Cl.bs] at hm; subst hm; have := (h1.on G rfl).1; unfold Blk at this hG; rw [this] at hG; simp at hG
      | _ => simp [Cl.bs] at hm
  have n2 : G ∉ dsFoot h v2 := by
    intro hm
    simp only [dsFoot, List.mem_cons] at hm
    rcases hm with rfl | hm
    · have := h4.hdr; unfold Blk at this hG; rw [this] at hG; simp at hG
    · exact h4.words.ne hG (by decide) hm
  exact ⟨v, c, v2, h1.ch k (fun x hx hG' => by simp at hG'; subst hG'; exact n1 hx), h2, h3, h4.ch k (fun x hx hG' => by simp at hG'; subst hG'; exact n2 hx), h5⟩
theorem Both.doc {B : Nat} {w : World} {g h cap : Nat} {ws : List Int} {cl on : Bool} (b : Both B w g h cap ws cl on) : ∃ a cp, w.cell? ⟨h, 1, none⟩ = some (.slice a ws.length cp) ∧ ws.length ≤ 256 := by
  obtain ⟨v, c, v2, h1, h2, h3, h4, h5⟩ := b
  obtain ⟨a, cp, rfl, _⟩ := h4.words.len
  exact ⟨a, cp, h4.hdr.c4.2.1, by have := h4.len; have := h4.cap2; omega⟩
/-- A mark is set. -/
theorem OnceAt.mark {w wr : World} {g h G cap i n top' r : Nat} {gn : Nat → Bool} {ws : List Int} {cl on : Bool} (gr : Gr w wr) (hG : w.heap.size ≤ G) (hn : n ≤ i) (b : Both w.heap.size wr g h cap ws cl on) (m : Blk wr G 4 (marks gn)) (o : Once n top' (upd gn r true) ws) :
    OnceAt w (wr.setCell ⟨G, r, none⟩ (.bool true)) g h G cap (i + 1) n top' := by
  have k : Ch [G] wr (wr.setCell ⟨G, r, none⟩ (.bool true)) := (Ch.refl _ _).st (by simp) _
  refine ⟨gr.st hG _, hG, by omega, upd gn r true, ws, cl, on, both_ch b m k, ?_, o⟩
  have := m.st r (.bool true)
  rwa [marks_set] at this
set_option maxRecDepth 100000 in
set_option maxHeartbeats 4000000 in
theorem shelfOnce_walk (c0 : Int) (a : Option Addr) (cap : Nat) (zs : List Int) (w : World) (hn : -9223372036854775808 ≤ c0 ∧ c0 ≤ 9223372036854775807) (h : SliceIn .u8 w a cap zs) :
    Calls Try.prog 4 #[.int .i64 c0, .slice a zs.length cap] w fun e w' => e = .returned (.bool true) ∧ Gr w w' := by
  obtain ⟨hlen, hcap, hrow, hwf, hnil⟩ := h
  have HR := Lib.hid (And.intro hrow hwf)
  clear hwf hnil hrow
  have hmk := run_make_recs el26 200 (by omega) (by omega)
  rw [show (recs 200 1 fun _ k => (Value.bool false).cells[k]!) = marks (fun _ => false) from
    recs_congr _ _ _ _ fun i k _ hk => by obtain rfl : k = 0 := (by omega); rfl] at hmk
  have hmk' : ∀ w, (Instr.makeSlice 26 (.int .i64 200) (.int .i64 200)).run Try.prog w = .ok (.slice (some ⟨w.heap.size, 0, none⟩) 200 200) (w.alloc (.cells (marks fun _ => false) 4)) := hmk
  clear hmk
  go_enter Try.func4, Try.ntmps4
  go_wp2_with fail
  refine (shelfNew_any c0 _).mono ?_
  rintro e w1 ⟨rfl, l1, g1, z1⟩
  go_wp2_with fail
  refine (dsNew_any c0 _).mono ?_
  rintro e w2 ⟨rfl, d2, g2⟩
  have b2 := both_new l1 g1 d2 g2
  have g2' := g1.tr g2
  generalize (clampI c0 1 256).toNat = C at *
  generalize w1.heap.size = hh at *
  clear l1 g1 d2 g2 w1 z1
  go_upto_region 4 with fail
  have T3 : OnceAt w (w2.alloc (.cells (marks fun _ => false) 4)) w.heap.size hh w2.heap.size C 0 0 0 := ⟨g2'.al _, g2'.size_le, by omega, fun _ => false, [], false, false, b2.gr ((Gr.refl _).al _), Blk.new w2 4 _, ⟨by simp, by simp, by omega, by simp⟩⟩
  generalize w2.alloc (.cells (marks fun _ => false) 4) = w3 at *
  generalize w2.heap.size = G at *
  clear b2 g2' hmk'
  go_wp2_with fail
  go_loopw [8, 9, 10] (fun t n i wr => ∃ k nn tp : Nat, k ≤ zs.length ∧ k ≤ 150 ∧ i = .int .i64 k ∧ n = .int .u64 nn ∧ t = .int .u64 tp ∧ OnceAt w wr w.heap.size hh G C k nn tp) (fun _ _ i _ => zs.length - (intOf i).toNat)
  case atStart => exact ⟨0, 0, 0, by omega, by omega, rfl, rfl, rfl, T3⟩
  case round =>
    obtain ⟨k, nn, tp, hk, hk150, rfl, rfl, rfl, gr, hG, hnn, gn, ws, cl, on, b, m, o⟩ := hrel
    by_cases hgo : k < zs.length ∧ k < 150
    · obtain ⟨hlt, h150⟩ := hgo
      have hd2 : decide ((k : Int) < 150) = true := by simp; omega
      rcases HR.out.1 with h0 | ⟨bz, off, rfl, hc⟩
      · simp [h0] at hlt
      have cz := gr.cell_some (hc k hlt)
      have hz := bd_u8 (HR.out.2 (zs.getD k 0) (by simp [hlt]))
      generalize zs.getD k 0 = K at cz hz
      clear hc
      obtain ⟨j, hj⟩ := Int.eq_ofNat_of_zero_le (show 0 ≤ K % 6 by omega)
      have hj6 : j < 6 := by omega
      obtain ⟨r, went, ws', cl', on', hw, C0⟩ := does_went w.heap.size wr w.heap.size hh C ws cl on b gr.size_le j hj6 ((nn : Int) + 1)
      have CD := Lib.hid C0
      clear C0
      obtain ⟨a2, cp2, cd, hwl⟩ := b.doc
      go_upto_region 11 with fail
      rw [hj]
      have HJ := Lib.hid hj
      clear hj
      cases hw with
      | keep =>
        go_wp2_with fail
        with_reducible refine (CD.out).mono ?_
        clear CD
        rintro e w4 ⟨rfl, b4, k4, m4⟩
        have g4 : Gr w w4 := Below.trans gr.below k4
        have m4' := m4 G _ m
        obtain ⟨a4, cp4, cd4, hl4⟩ := b4.doc
        clear m4 k4 cz cd b m
        by_cases hj2 : j < 2
        · have e1 : decide ((j : Int) < 2) = true := by simp; omega
          have e2 : decide (ws.length < ws.length) = false := by simp
          go_wp2_with fail
          go_roundw
          case rel => exact ⟨k + 1, nn, tp, by omega, by omega, by go_num, rfl, rfl, g4, hG, by omega, gn, _, _, _, b4, m4', o⟩
          case measure => simp [intOf]; omega
        · have e1 : decide ((j : Int) < 2) = false := by simp; omega
          go_wp2_with fail
          go_roundw
          case rel => exact ⟨k + 1, nn, tp, by omega, by omega, by go_num, rfl, rfl, g4, hG, by omega, gn, _, _, _, b4, m4', o⟩
          case measure => simp [intOf]; omega
      | add hj2 =>
        go_wp2_with fail
        with_reducible refine (CD.out).mono ?_
        clear CD
        rintro e w4 ⟨rfl, b4, k4, m4⟩
        have g4 : Gr w w4 := Below.trans gr.below k4
        have m4' := m4 G _ m
        obtain ⟨a4, cp4, cd4, hl4⟩ := b4.doc
        clear m4 k4 cz cd b m
        have e1 : decide ((j : Int) < 2) = true := by simp; omega
        rw [show (ws ++ [(nn : Int) + 1]).length = ws.length + 1 by simp] at cd4 hl4
        have e2 : decide (ws.length < ws.length + 1) = true := by simp
        go_wp2_with fail
        go_roundw
        case rel => exact ⟨k + 1, nn + 1, tp, by omega, by omega, by go_num, by go_num, rfl, g4, hG, by omega, gn, _, _, _, b4, m4', o.add⟩
        case measure => simp [intOf]; omega
      | top h2 h5 _ _ hws =>
        subst hws
        have hr0 := (o.bd r (by simp)).1
        obtain ⟨rn, rfl⟩ := Int.eq_ofNat_of_zero_le (show 0 ≤ r by omega)
        obtain ⟨t1, t2, t3, t4⟩ := o.top
        go_wp2_with fail
        with_reducible refine (CD.out).mono ?_
        clear CD
        rintro e w4 ⟨rfl, b4, k4, m4⟩
        have g4 : Gr w w4 := Below.trans gr.below k4
        have m4' := m4 G _ m
        obtain ⟨a4, cp4, cd4, hl4⟩ := b4.doc
        clear m4 k4 cz cd b m
        have mc := (m4'.cell rn).trans (marks_get gn rn (by omega))
        rw [t3] at mc
        have mf := m4'.frozen rn
        have e1 : decide ((j : Int) < 2) = false := by simp; omega
        have e3 : ((rn : Int) == 0) = false := by simp; omega
        have e4 : decide (nn < rn) = false := by simp; omega
        have e5 : ((j : Int) != 5) = true := by simp; omega
        have e6 : decide (rn ≤ tp) = false := by simp; omega
        have HM := Lib.hid (OnceAt.mark g4 hG hnn b4 m4' t4)
        clear t3 b4 m4' t4
        go_wp2_with fail
        go_roundw
        case rel => exact ⟨k + 1, nn, rn, by omega, by omega, by go_num, rfl, rfl, HM.out⟩
        case measure => simp [intOf]; omega
      | bot h5 _ _ hws =>
        subst hws
        have hr0 := (o.bd r (by simp)).1
        obtain ⟨rn, rfl⟩ := Int.eq_ofNat_of_zero_le (show 0 ≤ r by omega)
        obtain ⟨t1, t2, t3, t4⟩ := o.bot
        have e1 : decide ((j : Int) < 2) = false := by simp; omega
        have e5 : ((j : Int) != 5) = false := by simp; omega
        clear h5
        go_wp2_with fail
        with_reducible refine (CD.out).mono ?_
        clear CD
        rintro e w4 ⟨rfl, b4, k4, m4⟩
        have g4 : Gr w w4 := Below.trans gr.below k4
        have m4' := m4 G _ m
        obtain ⟨a4, cp4, cd4, hl4⟩ := b4.doc
        clear m4 k4 cz cd b m
        have mc := (m4'.cell rn).trans (marks_get gn rn (by omega))
        rw [t3] at mc
        have mf := m4'.frozen rn
        have e3 : ((rn : Int) == 0) = false := by simp; omega
        have e4 : decide (nn < rn) = false := by simp; omega
        have HM := Lib.hid (OnceAt.mark g4 hG hnn b4 m4' t4)
        clear t3 b4 m4' t4
        go_wp2_with fail
        go_roundw
        case rel => exact ⟨k + 1, nn, tp, by omega, by omega, by go_num, rfl, rfl, HM.out⟩
        case measure => simp [intOf]; omega
    · have hds : (k < zs.length ∧ decide ((k : Int) < 150) = false) ∨ ¬ k < zs.length := by
        by_cases hlt : k < zs.length
        · exact .inl ⟨hlt, by simp; omega⟩
        · exact .inr hlt
      clear hgo
      rcases hds with ⟨hd, hd2⟩ | hd
      all_goals
        go_wp2_with (go_at_call 21; refine (awake16_any _).mono ?_; rintro e w9 ⟨rfl, g9⟩)
        go_ret
        exact ⟨rfl, gr.tr g9⟩
end Go.Proofs.Ytfppmdnpjihcpaa
