/- The walk of the law BookOnce of chapter 29 (book): it returns true for every input, and changes nothing that was there. -/
import Derived.Test.YtkkobbomipcpoaaBk12
namespace Go.Proofs.Ytkkobbomipcpoaa
open Go.RowKit TagP
set_option linter.unusedVariables false
theorem u64_mod (z : Int) (m : Int) (hm : 0 < m) (hm2 : m ≤ 100) : ∃ x : Nat, (IntKind.u64.wrap z) % m = (x : Int) ∧ (x : Int) < m := by
  obtain ⟨x, hx⟩ := Int.eq_ofNat_of_zero_le (Int.emod_nonneg (IntKind.u64.wrap z) (show m ≠ 0 by omega))
  exact ⟨x, hx, by rw [← hx]; exact Int.emod_lt_of_pos _ hm⟩
theorem liveI_gone (s : BS) (sl : List Int) (j : Nat) (hj : j < sl.length) (hl : sl.length ≤ 60) (h8 : 0 ≤ sl.getD j 0 ∧ sl.getD j 0 < 8) :
    liveB s.f (wdAt sl j) = !goneB s sl j ∧ (goneB s sl j = false → liveI s.f (wdAt sl j) = sl.getD j 0 ∧ nowI s.f (sl.getD j 0) = wdAt sl j) ∧ (goneB s sl j = true → liveI s.f (wdAt sl j) = 0) ∧ 0 ≤ wdAt sl j ∧ wdAt sl j ≤ 18446744073709551615 := by
  have e0 : wdAt sl j = ((j : Int) + 1) * 256 + sl.getD j 0 := rfl
  have e1 : wdAt sl j / 256 = (j : Int) + 1 := by omega
  have e2 : wdAt sl j % 256 = sl.getD j 0 := by omega
  have hg : goodB (wdAt sl j / 256) (wdAt sl j % 256) = true := by rw [e1, e2]; exact (good_iff _ _).2 (by omega)
  have hb : liveB s.f (wdAt sl j) = !goneB s sl j := by
    unfold liveB goneB
    rw [hg, e2]
    simp
  refine ⟨hb, fun hgo => ?_, fun hgo => ?_, by omega, by omega⟩
  · have h1 : liveB s.f (wdAt sl j) = true := by rw [hb, hgo]; rfl
    refine ⟨by unfold liveI; unfold liveB at h1; rw [if_pos h1, e2], ?_⟩
    have : s.f (sl.getD j 0).toNat = wdAt sl j := by unfold goneB at hgo; simpa using hgo
    unfold nowI
    rw [if_pos ((place_iff _).2 (by omega)), this]
  · have h1 : liveB s.f (wdAt sl j) = false := by rw [hb, hgo]; rfl
    unfold liveI; unfold liveB at h1; rw [if_neg (by rw [h1]; simp)]
theorem or_app4 {B : Nat} {w0 w w' : World} {g h A : Nat} {s : BS} {v4 v5 v6 v' : Value} {ws zs ys : List Int} {n : Nat} {xs : List Value} {cs : Array Value} (o : OR B w g h s v4 v5 v6 ws zs n xs) (hx : Blk w A 73 cs ∧ Gr w0 w) (e : w0.heap.size = B) (k : Ch (sb v4) w w') (f : Foot w (sb v4) (sb v')) (r : Sl 71 .u64 w' v' ys) :
    OR B w' g h s v' v5 v6 ys zs n xs ∧ Blk w' A 73 cs ∧ Gr w0 w' :=
  ⟨o.app4 (by rw [← e]; exact hx.2.size_le) k f r, hx.1.ch k (o.r4.ne hx.1 (by decide)), hx.2.chs k (fun b hb => by rw [e]; exact o.b4 b hb)⟩
theorem or_app5 {B : Nat} {w0 w w' : World} {g h A : Nat} {s : BS} {v4 v5 v6 v' : Value} {ws zs ys : List Int} {n : Nat} {xs : List Value} {cs : Array Value} (o : OR B w g h s v4 v5 v6 ws zs n xs) (hx : Blk w A 73 cs ∧ Gr w0 w) (e : w0.heap.size = B) (k : Ch (sb v5) w w') (f : Foot w (sb v5) (sb v')) (r : Sl 3 .i64 w' v' ys) :
    OR B w' g h s v4 v' v6 ws ys n xs ∧ Blk w' A 73 cs ∧ Gr w0 w' :=
  ⟨o.app5 (by rw [← e]; exact hx.2.size_le) k f r, hx.1.ch k (o.r5.ne hx.1 (by decide)), hx.2.chs k (fun b hb => by rw [e]; exact o.b5 b hb)⟩
theorem or_app6 {B : Nat} {w0 w w' : World} {g h A : Nat} {s : BS} {v4 v5 v6 v' : Value} {ws zs : List Int} {n m : Nat} {xs xs' : List Value} {cs : Array Value} (o : OR B w g h s v4 v5 v6 ws zs n xs) (hx : Blk w A 73 cs ∧ Gr w0 w) (e : w0.heap.size = B) (k : w.grownBy w' v6.ownBlock) (r : w'.ownsRow B 4 1 v' m xs') :
    OR B w' g h s v4 v5 v' ws zs m xs' ∧ Blk w' A 73 cs ∧ Gr w0 w' :=
  ⟨o.app6 k r, hx.1.grown k (fun hA => by
    obtain ⟨cur, hcur⟩ := o.own6 hA.symm
    have h1 := hx.1
    unfold Blk at h1 hcur
    rw [h1] at hcur; simp at hcur), hx.2.grown k (fun q hq => by rw [e]; exact (o.r6.lt q hq).1)⟩
/-- What the call of the round leaves: the places, the book, who is gone. -/
def Mid (B : Nat) (g h : Nat) (A : Nat) (cs : Array Value) (k : Nat) (k3 : Bool) (x : Int) (v4 v5 v6 : Value) (w0 w : World) : Prop :=
  ∃ sl s G, OI B w g h s v4 v5 v6 sl G ∧ GM k3 x s sl G ∧ sl.length ≤ k + 1 ∧ Blk w A 73 cs ∧ Gr w0 w
set_option maxRecDepth 100000 in
set_option maxHeartbeats 8000000 in
theorem bookOnce_walk (ad : Option Addr) (len cap : Nat) (F : Nat → Nat → Value) (w : World) (h : RecsIn Try.prog 73 w ad len cap 6 F) :
    Calls Try.prog 10 #[.slice ad len cap] w fun e w' => e = .returned (.bool true) ∧ Gr w w' := by
  obtain ⟨hlen, hcap, hrow, hkind⟩ := h
  have hk0 : ∀ i, i < len → ∃ n, F i 0 = .int .u8 n ∧ 0 ≤ n ∧ n ≤ 255 := fun i hi => by
    obtain ⟨n, h1, h2⟩ := hkind 2 i 0 (some .u8) hi (by omega) (by kernel_rfl); exact ⟨n, h1, bd_u8 h2⟩
  have hk1 : ∀ i, i < len → ∃ n, F i 1 = .int .i64 n ∧ -9223372036854775808 ≤ n ∧ n ≤ 9223372036854775807 := fun i hi => by
    obtain ⟨n, h1, h2⟩ := hkind 2 i 1 (some .i64) hi (by omega) (by kernel_rfl); exact ⟨n, h1, bd_i64 h2⟩
  have hk2 : ∀ i, i < len → ∃ n, F i 2 = .int .i64 n ∧ -9223372036854775808 ≤ n ∧ n ≤ 9223372036854775807 := fun i hi => by
    obtain ⟨n, h1, h2⟩ := hkind 2 i 2 (some .i64) hi (by omega) (by kernel_rfl); exact ⟨n, h1, bd_i64 h2⟩
  have hk3 : ∀ i, i < len → ∃ n, F i 3 = .int .i64 n := fun i hi => by
    obtain ⟨n, h1, h2⟩ := hkind 2 i 3 (some .i64) hi (by omega) (by kernel_rfl); exact ⟨n, h1⟩
  have hk4 : ∀ i, i < len → ∃ n, F i 4 = .int .u64 n ∧ 0 ≤ n ∧ n ≤ 18446744073709551615 := fun i hi => by
    obtain ⟨n, h1, h2⟩ := hkind 2 i 4 (some .u64) hi (by omega) (by kernel_rfl); exact ⟨n, h1, bd_u64 h2⟩
  have hk5 : ∀ i, i < len → ∃ b, F i 5 = .bool b := fun i hi => hkind 2 i 5 none hi (by omega) (by kernel_rfl)
  have HK := Lib.hid (And.intro hk0 (And.intro hk1 (And.intro hk2 (And.intro hk3 (And.intro hk4 hk5)))))
  have HR := Lib.hid hrow
  clear hkind hk0 hk1 hk2 hk3 hk4 hk5 hrow
  have C1 := Lib.hid (fun w => bnew 4 w)
  rw [show clampI 4 1 64 = 4 from rfl] at C1
  go_enter Try.func10, Try.ntmps10
  go_wp2_with fail
  refine (C1.out _).mono ?_
  rintro e w1 ⟨rfl, l1, g1⟩
  have HT : Hid (OI w.heap.size w1 (w.heap.size + 1) w.heap.size (s0 4) (.slice none 0 0) (.slice none 0 0) (.slice none 0 0) [] (fun _ => false) ∧ Gr w w1) :=
    Lib.hid ⟨⟨⟨l1, Sl.nil _ _ _, Sl.nil _ _ _, ⟨by simp [gnC, tab], .inl ⟨rfl, rfl⟩⟩, by simp [sb], by simp [sb], by omega⟩, rfl, rfl, by simp⟩, g1⟩
  have HB := Lib.hid (Nat.le_refl w.heap.size)
  clear l1 g1
  generalize w.heap.size + 1 = g at *
  obtain ⟨B, hB⟩ : ∃ B, w.heap.size = B := ⟨_, rfl⟩
  rw [hB] at HT HB
  have HBB := Lib.hid hB
  clear hB
  obtain ⟨h, hh⟩ : ∃ h, B = h := ⟨_, rfl⟩
  have HT' : Hid (OI B w1 g h (s0 4) (.slice none 0 0) (.slice none 0 0) (.slice none 0 0) [] (fun _ => false) ∧ Gr w w1) := Lib.hid (hh ▸ HT.out)
  clear HT hh HB
  go_wp2_with fail
  go_loopw [4, 5, 6, 7] (fun v4 v5 v6 i wr => ∃ (k : Nat) (s : BS) (sl : List Int) (G : Nat → Bool), k ≤ len ∧ k ≤ 60 ∧ i = .int .i64 k ∧ OI B wr g h s v4 v5 v6 sl G ∧ GN s sl G ∧ sl.length ≤ k ∧ Gr w wr) (fun _ _ _ i _ => len - (intOf i).toNat)
  case atStart => exact ⟨0, s0 4, [], _, by omega, by omega, rfl, HT'.out.1, fun j hj => by simp at hj, by simp, HT'.out.2⟩
  case round =>
    obtain ⟨k, s, sl, G, hk, hk60, rfl, O, hgn, hslk, gr⟩ := hrel
    clear HT'
    by_cases hgo : k < len ∧ k < 60
    · obtain ⟨hlt, h60⟩ := hgo
      have hd : decide ((k : Int) < (len : Int)) = true := by simpa using hlt
      have hd2 : decide ((k : Int) < 60) = true := by simp; omega
      rcases HR.out with h0 | ⟨bz, off, rfl, hc⟩
      · omega
      obtain ⟨kd, e0, hkd⟩ := HK.out.1 k hlt
      obtain ⟨slot, e1, hsl⟩ := HK.out.2.1 k hlt
      obtain ⟨cpu, e2, hcp⟩ := HK.out.2.2.1 k hlt
      obtain ⟨level, e3⟩ := HK.out.2.2.2.1 k hlt
      obtain ⟨nw, e4, hnw⟩ := HK.out.2.2.2.2.1 k hlt
      obtain ⟨anew, e5⟩ := HK.out.2.2.2.2.2 k hlt
      have c0 := hc k 0 hlt (by omega)
      have c1 := hc k 1 hlt (by omega)
      have c2 := hc k 2 hlt (by omega)
      have c3 := hc k 3 hlt (by omega)
      have c4 := hc k 4 hlt (by omega)
      have c5 := hc k 5 hlt (by omega)
      rw [e0] at c0; rw [e1] at c1; rw [e2] at c2; rw [e3] at c3; rw [e4] at c4; rw [e5] at c5
      clear e0 e1 e2 e3 e4 e5 hc
      simp only [Nat.add_zero] at c0
      replace c0 := gr.cell_some c0
      replace c1 := gr.cell_some c1
      replace c2 := gr.cell_some c2
      replace c3 := gr.cell_some c3
      replace c4 := gr.cell_some c4
      replace c5 := gr.cell_some c5
      obtain ⟨x, hx1, hx2⟩ := u64_mod slot 8 (by omega) (by omega)
      obtain ⟨cc, hc1, hc2⟩ := u64_mod cpu 4 (by omega) (by omega)
      have hU : 0 ≤ IntKind.u64.wrap slot ∧ IntKind.u64.wrap slot ≤ 18446744073709551615 := by rw [IntKind.wrap_u64]; omega
      have hV : 0 ≤ IntKind.u64.wrap cpu ∧ IntKind.u64.wrap cpu ≤ 18446744073709551615 := by rw [IntKind.wrap_u64]; omega
      obtain ⟨U, hUe⟩ : ∃ U, IntKind.u64.wrap slot = U := ⟨_, rfl⟩
      obtain ⟨V, hVe⟩ : ∃ V, IntKind.u64.wrap cpu = V := ⟨_, rfl⟩
      rw [hUe] at hx1 hU
      rw [hVe] at hc1 hV
      have HO := Lib.hid (And.intro O (And.intro hgn (And.intro hslk gr)))
      have hcell : ∀ w' A, Blk w' A 73 #[.int .u8 kd, .int .i64 slot, .int .i64 cpu, .int .i64 level, .int .u64 nw, .bool anew] → w'.cell? ⟨A, 0, none⟩ = some (.int .u8 kd) ∧ w'.cell? ⟨A, 1, none⟩ = some (.int .i64 slot) ∧ w'.cell? ⟨A, 2, none⟩ = some (.int .i64 cpu) ∧ w'.cell? ⟨A, 3, none⟩ = some (.int .i64 level) ∧ w'.cell? ⟨A, 4, none⟩ = some (.int .u64 nw) ∧ w'.cell? ⟨A, 5, none⟩ = some (.bool anew) :=
        fun w' A b => ⟨b.cell 0, b.cell 1, b.cell 2, b.cell 3, b.cell 4, b.cell 5⟩
      have HC := Lib.hid hcell
      clear O hgn hslk gr hcell
      go_upto_region 10 with fail
      have hX := Blk.new wr 73 #[.int .u8 kd, .int .i64 slot, .int .i64 cpu, .int .i64 level, .int .u64 nw, .bool anew]
      have hG := (Gr.refl wr).al (.cells #[.int .u8 kd, .int .i64 slot, .int .i64 cpu, .int .i64 level, .int .u64 nw, .bool anew] 73)
      have HO2 := Lib.hid (And.intro (HO.out.1.gr hG) (And.intro HO.out.2.1 (And.intro HO.out.2.2.1 (HO.out.2.2.2.tr hG))))
      have HX := Lib.hid hX
      clear c0 c1 c2 c3 c4 c5 HO hX hG
      generalize wr.alloc (.cells #[.int .u8 kd, .int .i64 slot, .int .i64 cpu, .int .i64 level, .int .u64 nw, .bool anew] 73) = W at *
      generalize wr.heap.size = A at *
      obtain ⟨a0, a1, a2, a3, a4, a5⟩ := HC.out _ _ HX.out
      obtain ⟨n4, k4, rfl, _, _⟩ := HO2.out.1.o.r4.len
      obtain ⟨n5, k5, rfl, _, _⟩ := HO2.out.1.o.r5.len
      obtain ⟨n6, k6, rfl, _, _⟩ := gn_len HO2.out.1.o.r6
      have hkB : B ≤ W.heap.size := by have := HO2.out.2.2.2.size_le; have := HBB.out; omega
      have hk3 : ∃ k3, (kd % 6 == 3) = k3 := ⟨_, rfl⟩
      obtain ⟨k3, hk3⟩ := hk3
      go_upto_if 39 with fail
      go_cut [4, 5, 6] (fun v4 v5 v6 wx => Mid B g h A #[.int .u8 kd, .int .i64 slot, .int .i64 cpu, .int .i64 level, .int .u64 nw, .bool anew] k k3 x v4 v5 v6 w wx)
      case first =>
        have hx64 : x < 64 := by omega
        cases k3 with
        | true =>
          have CD := Lib.hid (bdrop g h s x W HO2.out.1.o.bk)
          go_wp2_with (go_at_call 47; refine (CD.out).mono ?_; rintro e w2 ⟨rfl, l2, k2⟩)
          go_meet
          case rel =>
            have hA : A ∉ [g, h] := by
              have h1 := HX.out
              have h2 : Blk W g 117 _ := HO2.out.1.o.bk.hdr
              have h3 := HO2.out.1.o.bk.tag
              unfold Blk at h1 h2 h3
              simp only [List.mem_cons, List.not_mem_nil, or_false]
              rintro (e | e)
              · subst e; rw [h1] at h2; simp at h2
              · subst e; rw [h1] at h3; simp at h3
            exact ⟨sl, dropS s x, G, ⟨HO2.out.1.o.book l2 k2, by unfold dropS; split <;> exact HO2.out.1.c4, by rw [drop_last]; exact HO2.out.1.last, HO2.out.1.sl8⟩, HO2.out.2.1.drop HO2.out.1.sl8 x hx64, by have := HO2.out.2.2.1; omega, HX.out.ch k2 hA, HO2.out.2.2.2.chs k2 (by have := HO2.out.1.o.bg; have := HBB.out; simp; omega)⟩
        | false =>
          by_cases h3 : kd % 6 < 3
          · have d3 : decide (kd % 6 < 3) = true := by simpa using h3
            clear h3
            have CP := Lib.hid (bplace_yes g h s x cc level nw anew W HO2.out.1.o.bk hx64 (by unfold cpuB; rw [HO2.out.1.c4]; simp; omega) (by rw [HO2.out.1.last]; have := HO2.out.2.2.1; omega))
            go_wp2_with (go_at_call 48; refine (CP.out).mono ?_; rintro e w2 ⟨rfl, l2, k2⟩)
            have hA : ∀ Y t cs, Blk W Y t cs → t ≠ 73 → A ≠ Y := fun Y t cs hY ht e => by
              have h1 := HX.out
              subst e
              unfold Blk at h1 hY
              rw [h1] at hY
              simp at hY
              exact ht hY.2.symm
            have hA2 : A ∉ [g, h] := by
              have e1 := hA g 117 _ HO2.out.1.o.bk.hdr (by decide)
              have e2 := hA h 136 _ HO2.out.1.o.bk.tag (by decide)
              simp; exact ⟨e1, e2⟩
            have O2 := HO2.out.1.o.book l2 k2
            have g2 : Gr w w2 := HO2.out.2.2.2.chs k2 (by have := HO2.out.1.o.bg; have := HBB.out; simp; omega)
            have X2 := HX.out.ch k2 hA2
            have hq2 : (s.last + 1) * 256 + (x : Int) = ((sl.length : Int) + 1) * 256 + x := by rw [HO2.out.1.last]
            rw [hq2]
            have HP := Lib.hid (And.intro (HO2.out.2.1.place HO2.out.1.sl8 x HO2.out.1.last cc level nw anew x) (And.intro HO2.out.1.c4 (And.intro HO2.out.1.last (And.intro HO2.out.1.sl8 HO2.out.2.2.1))))
            have HS1 : Hid ((plS s x cc level nw anew).c = s.c ∧ (plS s x cc level nw anew).last = s.last + 1) := Lib.hid ⟨rfl, rfl⟩
            generalize plS s x cc level nw anew = s1 at *
            have HR2 := Lib.hid (And.intro O2 (And.intro X2 g2))
            have hn60 : sl.length ≤ 60 := by have := HO2.out.2.2.1; omega
            clear l2 k2 O2 X2 g2 hA hA2 hq2 a0 a1 a2 a3 a4 a5 CP
            generalize hqq : ((sl.length : Int) + 1) * 256 + (x : Int) = qw at *
            have HQQ := Lib.hid hqq
            clear hqq
            go_loopw [12] (fun i wx => ∃ q : Nat, q ≤ sl.length ∧ i = .int .i64 q ∧ OR B wx g h s1 (.slice n4 (wds sl).length k4) (.slice n5 sl.length k5) (.slice n6 sl.length k6) (wds sl) sl sl.length (gnC sl.length (fun j => if j < q then (G j || decide (sl.getD j 0 = x)) else G j)) ∧ Blk wx A 73 #[.int .u8 kd, .int .i64 slot, .int .i64 cpu, .int .i64 level, .int .u64 nw, .bool anew] ∧ Gr w wx) (fun i _ => sl.length - (intOf i).toNat)
            case atStart => exact ⟨0, by omega, rfl, by simpa using HR2.out⟩
            case round =>
              obtain ⟨q, hq, rfl, Oq, Xq, gq⟩ := hrel
              have hwl : (wds sl).length = sl.length := wds_len sl
              have HWL := Lib.hid hwl
              rw [hwl] at Oq ⊢
              clear hwl
              by_cases hlq : q < sl.length
              · have hdq : decide ((q : Int) < (sl.length : Int)) = true := by simpa using hlq
                obtain ⟨b6, cp6, he6, hb6, hlt6, hc6, hf6⟩ := gn_cells Oq.r6 (by omega)
                cases he6
                obtain ⟨b5, o5, cp5, he5, _, _, hc5, _, _⟩ := Oq.r5.cells (by omega)
                cases he5
                have cq := hc6 q hlq
                have sq := hc5 q hlq
                have fq := hf6 q
                have hset := own_set Oq.r6 q (.bool (G q || decide (sl.getD q 0 = x)))
                rw [gnC_set, gnC_congr sl.length _ (fun j => if j < q + 1 then (G j || decide (sl.getD j 0 = x)) else G j) (fun j hj => by
                  by_cases e : j = q
                  · subst e; rw [if_pos rfl, if_pos (by omega)]
                  · rw [if_neg e]
                    by_cases e2 : j < q
                    · rw [if_pos e2, if_pos (by omega)]
                    · rw [if_neg e2, if_neg (by omega)])] at hset
                have hk6 : Ch [b6] wr (wr.setCell ⟨b6, q, none⟩ (.bool (G q || decide (sl.getD q 0 = x)))) := (Ch.refl _ _).st (by simp) _
                have hO := Oq.gone hk6 (by simp [Value.ownBlock]) hset
                have hX := Xq.ch hk6 (by
                  obtain ⟨cur, hcur⟩ := Oq.own6 (b := b6) rfl
                  intro hm
                  simp at hm
                  subst hm
                  unfold Blk at Xq hcur
                  rw [Xq] at hcur; simp at hcur)
                have hg := gq.chs hk6 (by simp; have := HBB.out; omega)
                have HN := Lib.hid (And.intro hO (And.intro hX hg))
                rw [if_neg (by omega)] at cq
                clear hc6 hc5 hset hk6 hO hX hg hf6 Oq Xq
                generalize sl.getD q 0 = z at *
                cases hG : G q with
                | true =>
                  rw [hG] at cq
                  rw [hG, Bool.true_or] at HN
                  clear hG
                  go_wp2_with fail
                  go_roundw
                  case rel => exact ⟨q + 1, by omega, by go_num, HN.out⟩
                  case measure => simp [intOf]; omega
                | false =>
                  rw [hG] at cq
                  rw [hG, Bool.false_or] at HN
                  clear hG
                  by_cases hz : z = x
                  · rw [show decide (z = x) = true by simpa using hz] at HN
                    have e1 : (z == x) = true := by simpa using hz
                    clear hz
                    go_wp2_with fail
                    go_roundw
                    case rel => exact ⟨q + 1, by omega, by go_num, HN.out⟩
                    case measure => simp [intOf]; omega
                  · rw [show decide (z = x) = false by simpa using hz] at HN
                    have e1 : (z == x) = false := by simpa using hz
                    clear hz
                    go_wp2_with fail
                    go_roundw
                    case rel => exact ⟨q + 1, by omega, by go_num, HN.out⟩
                    case measure => simp [intOf]; omega
              · obtain rfl : q = sl.length := by omega
                have hdq : decide (sl.length < sl.length) = false := by simp
                have Oq' : OR B wr g h s1 (.slice n4 sl.length k4) (.slice n5 sl.length k5) (.slice n6 sl.length k6) (wds sl) sl sl.length (gnC sl.length (fun j => (G j || decide (sl.getD j 0 = x)))) := by
                  rwa [gnC_congr sl.length _ (fun j => (G j || decide (sl.getD j 0 = x))) (fun j hj => by rw [if_pos hj])] at Oq
                have HO3 := Lib.hid Oq'
                have HX3 := Lib.hid (And.intro Xq gq)
                clear Oq Oq' Xq gq
                obtain ⟨n, hnn⟩ : ∃ n, sl.length = n := ⟨_, rfl⟩
                rw [hnn] at HO3 HP HWL hn60 ⊢
                have HNN := Lib.hid hnn
                clear hnn hq hlq hdq HR2
                have hdq : decide (n < n) = false := by simp
                have hb1 : B ≤ wr.heap.size := by have := HX3.out.2.size_le; have := HBB.out; omega
                go_wp2_with (first
                  | (at_builtin; refine wpList_sl1 el69 .u64 (.tmp 87) (.tmp 89) (.slice n4 n k4) (wds sl) qw _ _ rfl rfl rfl rfl HO3.out.r4 (by have := HWL.out; omega) (by have := HWL.out; omega) ?_; intro v4 w4 r4 c4 f4; have H4 := Lib.hid (or_app4 HO3.out HX3.out HBB.out c4 f4 r4); obtain ⟨m4, p4, hv4, _, _⟩ := r4.len; rw [List.length_append, HWL.out, List.length_singleton] at hv4; subst hv4; clear r4 c4 f4)
                  | (at_builtin; refine wpList_sl1 el22 .i64 (.tmp 91) (.tmp 93) (.slice n5 n k5) sl (x : Int) _ _ rfl rfl rfl rfl H4.out.1.r5 (by have := HNN.out; omega) (by have := HNN.out; omega) ?_; intro v5 w5 r5 c5 f5; have H5 := Lib.hid (or_app5 H4.out.1 H4.out.2 HBB.out c5 f5 r5); obtain ⟨m5, p5, hv5, _, _⟩ := r5.len; rw [List.length_append, HNN.out, List.length_singleton] at hv5; subst hv5; clear r5 c5 f5)
                  | (at_builtin; refine wpList_app1 el70 (.tmp 95) (.tmp 96) B (.slice n6 n k6) n _ #[.bool false] _ _ rfl rfl rfl rfl H5.out.1.r6 rfl rfl (by omega) (by omega) (by have := H5.out.2.2.size_le; have := HBB.out; omega) ?_; intro v6 w6 r6 k6'; have H6 := Lib.hid (or_app6 H5.out.1 H5.out.2 HBB.out k6' r6); obtain ⟨m6, p6, hv6, _, _⟩ := gn_len r6; subst hv6; clear r6 k6'))
                go_meet
                case rel =>
                  refine ⟨sl ++ [(x : Int)], s1, _, ⟨?_, HS1.out.1.trans HP.out.2.1, ?_, ?_⟩, HP.out.1, ?_, H6.out.2.1, H6.out.2.2⟩
                  · have h6 := H6.out.1
                    rw [show gnC n (fun j => (G j || decide (sl.getD j 0 = x))) ++ (#[Value.bool false] : Array Value).toList = gnC (n + 1) (fun j => if j = n then false else (G j || decide (sl.getD j 0 = x))) from gnC_snoc n _] at h6
                    rw [show wds sl ++ [qw] = wds (sl ++ [(x : Int)]) by rw [wds_snoc, HQQ.out]] at h6
                    rw [List.length_append, HNN.out, List.length_singleton]
                    exact h6
                  · rw [HS1.out.2, HP.out.2.2.1, List.length_append, HNN.out, List.length_singleton]; omega
                  · intro j hj
                    rw [List.length_append, HNN.out, List.length_singleton] at hj
                    by_cases e : j < n
                    · rw [getD_snoc _ _ _ (by rw [HNN.out]; exact e)]; exact HP.out.2.2.2.1 j e
                    · obtain rfl : j = n := by omega
                      rw [show (sl ++ [(x : Int)]).getD j 0 = x by have := getD_last sl (x : Int); rwa [HNN.out] at this]; omega
                  · rw [List.length_append, HNN.out, List.length_singleton]; have := HP.out.2.2.2.2; omega
          · have d3 : decide (kd % 6 < 3) = false := by simpa using h3
            clear h3
            go_wp2_with fail
            go_meet
            case rel => exact ⟨sl, s, G, HO2.out.1, HO2.out.2.1.same x, by have := HO2.out.2.2.1; omega, HX.out, HO2.out.2.2.2⟩
      case rest =>
        obtain ⟨sl3, s3, G3, O3, hgm, hl3, X3, g3⟩ := hcut
        clear a0 a1 a2 a3 a4 a5
        obtain ⟨m4, p4, rfl, _, _⟩ := O3.o.r4.len
        obtain ⟨m5, p5, rfl, _, _⟩ := O3.o.r5.len
        obtain ⟨m6, p6, rfl, _, _⟩ := gn_len O3.o.r6
        have hwl := wds_len sl3
        have HP := Lib.hid (And.intro hgm (And.intro O3.c4 (And.intro O3.last (And.intro O3.sl8 (And.intro hl3 hwl)))))
        rw [hwl] at O3 ⊢
        have HO3 := Lib.hid (And.intro O3.o (And.intro X3 g3))
        obtain ⟨n, hnn⟩ : ∃ n, sl3.length = n := ⟨_, rfl⟩
        rw [hnn] at HO3 HP ⊢
        have HNN := Lib.hid hnn
        have hn61 : n ≤ 60 := by omega
        clear O3 X3 g3 hgm hl3 hwl hnn HO2 HX
        go_wp2_with fail
        go_loopw [13] (fun i wx => ∃ q : Nat, q ≤ n ∧ i = .int .i64 q ∧ OR B wx g h s3 (.slice m4 n p4) (.slice m5 n p5) (.slice m6 n p6) (wds sl3) sl3 n (gnC n (fun j => if j < q then (G3 j || (k3 && decide (sl3.getD j 0 = x))) else G3 j)) ∧ Blk wx A 73 #[.int .u8 kd, .int .i64 slot, .int .i64 cpu, .int .i64 level, .int .u64 nw, .bool anew] ∧ Gr w wx) (fun i _ => n - (intOf i).toNat)
        case atStart => exact ⟨0, by omega, rfl, by simpa using HO3.out⟩
        case round =>
          obtain ⟨q, hq, rfl, Oq, Xq, gq⟩ := hrel
          by_cases hlq : q < n
          · have hdq : decide (q < n) = true := by simpa using hlq
            have hql : q < sl3.length := by rw [HNN.out]; exact hlq
            obtain ⟨b6, cp6, he6, hb6, hlt6, hc6, hf6⟩ := gn_cells Oq.r6 (by omega)
            cases he6
            obtain ⟨b5, o5, cp5, he5, _, _, hc5, _, _⟩ := Oq.r5.cells (by omega)
            rw [HNN.out] at he5
            cases he5
            obtain ⟨b4, o4, cp4, he4, _, _, hc4, _, _⟩ := Oq.r4.cells (by rw [HP.out.2.2.2.2.2]; omega)
            rw [HP.out.2.2.2.2.2] at he4
            cases he4
            have cq := hc6 q hlq
            have fq := hf6 q
            rw [if_neg (by omega)] at cq
            have hfin := HP.out.1 q hql
            have hlv := liveI_gone s3 sl3 q hql (by rw [HNN.out]; exact hn61) (HP.out.2.2.2.1 q hlq)
            have hset := own_set Oq.r6 q (.bool (goneB s3 sl3 q))
            rw [gnC_set, gnC_congr n _ (fun j => if j < q + 1 then (G3 j || (k3 && decide (sl3.getD j 0 = x))) else G3 j) (fun j hj => by
              by_cases e : j = q
              · subst e; rw [if_pos rfl, if_pos (by omega), hfin]
              · rw [if_neg e]
                by_cases e2 : j < q
                · rw [if_pos e2, if_pos (by omega)]
                · rw [if_neg e2, if_neg (by omega)])] at hset
            have hk6 : Ch [b6] wr (wr.setCell ⟨b6, q, none⟩ (.bool (goneB s3 sl3 q))) := (Ch.refl _ _).st (by simp) _
            have hO := Oq.gone hk6 (by simp [Value.ownBlock]) hset
            have hX := Xq.ch hk6 (by
              obtain ⟨cur, hcur⟩ := Oq.own6 (b := b6) rfl
              intro hm
              simp at hm
              subst hm
              unfold Blk at Xq hcur
              rw [Xq] at hcur; simp at hcur)
            have hg := gq.chs hk6 (by simp; have := HBB.out; omega)
            have HN := Lib.hid (And.intro hO (And.intro hX hg))
            have hc6' := hset
            have sq := hc5 q hql
            have a0 := (HC.out _ _ Xq).1
            have hcell : ∀ w', OR B w' g h s3 (.slice (some ⟨b4, o4, none⟩) n p4) (.slice (some ⟨b5, o5, none⟩) n p5) (.slice (some ⟨b6, 0, none⟩) n p6) (wds sl3) sl3 n (gnC n (fun j => if j < q + 1 then (G3 j || (k3 && decide (sl3.getD j 0 = x))) else G3 j)) → w'.cell? ⟨b4, o4 + q, none⟩ = some (.int .u64 (wdAt sl3 q)) ∧ w'.cell? ⟨b5, o5 + q, none⟩ = some (.int .i64 (sl3.getD q 0)) ∧ w'.cell? ⟨b6, q, none⟩ = some (.bool (goneB s3 sl3 q)) := by
              intro w' O'
              obtain ⟨_, _, _, he, _, _, h4, _, _⟩ := O'.r4.cells (by rw [HP.out.2.2.2.2.2]; omega)
              rw [HP.out.2.2.2.2.2] at he
              cases he
              obtain ⟨_, _, _, he, _, _, h5, _, _⟩ := O'.r5.cells (by omega)
              rw [HNN.out] at he
              cases he
              obtain ⟨_, _, he, _, _, h6, _⟩ := gn_cells O'.r6 (by omega)
              cases he
              refine ⟨?_, h5 q hql, ?_⟩
              · rw [h4 q (by rw [HP.out.2.2.2.2.2]; exact hlq), wds_get sl3 q hql]
              · rw [h6 q hlq, if_pos (by omega), hfin]
            have CV := Lib.hid (fun w' (l : BookAt w' g h s3) => blive g h s3 (wdAt sl3 q) w' l hlv.2.2.2.1 hlv.2.2.2.2)
            have HL := Lib.hid hlv
            have HCC := Lib.hid hcell
            have HFI := Lib.hid hfin
            clear hfin hlv hset hk6 hO hX hg hc6' hc6 hc5 hc4 hf6 hcell Oq Xq
            generalize wdAt sl3 q = u at *
            generalize goneB s3 sl3 q = fin at *
            generalize sl3.getD q 0 = z at *
            go_upto_region 26 with fail
            go_cut [123] (fun v wx => v = .bool fin ∧ wx = wr.setCell ⟨b6, q, none⟩ (.bool fin))
            case first =>
              generalize G3 q = Gq at *
              cases Gq with
              | true =>
                obtain rfl : fin = true := by have := HFI.out; simpa using this.symm
                go_wp2_with fail
                go_meet
                case rel => exact ⟨rfl, rfl⟩
              | false =>
                cases k3 with
                | false =>
                  obtain rfl : fin = false := by have := HFI.out; simpa using this.symm
                  go_wp2_with fail
                  go_meet
                  case rel => exact ⟨rfl, rfl⟩
                | true =>
                  by_cases hz : z = x
                  · obtain rfl : fin = true := by have := HFI.out; simpa [hz] using this.symm
                    have e1 : (z == x) = true := by simpa using hz
                    clear hz
                    go_wp2_with fail
                    go_meet
                    case rel => exact ⟨rfl, rfl⟩
                  · obtain rfl : fin = false := by have := HFI.out; simpa [hz] using this.symm
                    have e1 : (z == x) = false := by simpa using hz
                    clear hz
                    go_wp2_with fail
                    go_meet
                    case rel => exact ⟨rfl, rfl⟩
            case rest =>
              obtain ⟨rfl, rfl⟩ := hcut
              clear cq sq fq a0
              generalize wr.setCell ⟨b6, q, none⟩ (.bool fin) = W6 at *
              obtain ⟨y4, y5, y6⟩ := HCC.out _ HN.out.1
              cases fin with
              | true =>
                have CV' := Lib.hid (CV.out _ HN.out.1.bk)
                rw [HL.out.1, HL.out.2.2.1 rfl] at CV'
                go_upto_region 28 with (go_at_call 49; refine (CV'.out).mono ?_; rintro e w7 ⟨rfl, g7⟩)
                have y6' := g7.cell_some y6
                have HY := Lib.hid (And.intro y4 (And.intro y5 y6))
                clear y4 y5 y6
                go_quiet (fail)
                all_goals
                  go_wp2
                  go_roundw
                  case rel => exact ⟨q + 1, by omega, by go_num, (HN.out.1.gr (g7.drewN _)), HN.out.2.1.gr (g7.drewN _), HN.out.2.2.tr (g7.drewN _)⟩
                  case measure => simp [intOf]; omega
              | false =>
                have CV' := Lib.hid (CV.out _ HN.out.1.bk)
                rw [HL.out.1, (HL.out.2.1 rfl).1] at CV'
                have CW := Lib.hid (fun w' (l : BookAt w' g h s3) => bword g h s3 z w' l)
                rw [(HL.out.2.1 rfl).2] at CW
                go_upto_region 28 with (go_at_call 49; refine (CV'.out).mono ?_; rintro e w7 ⟨rfl, g7⟩)
                have y4' := g7.cell_some y4
                have y5' := g7.cell_some y5
                have y6' := g7.cell_some y6
                clear y4 y5 y6
                go_quiet ((go_at_call 50; exact quietS (CW.out _ (HN.out.1.bk.gr (g7.drewN _)))))
                all_goals
                  go_wp2
                  go_roundw
                  case rel => exact ⟨q + 1, by omega, by go_num, (HN.out.1.gr (g7.drewN _)), HN.out.2.1.gr (g7.drewN _), HN.out.2.2.tr (g7.drewN _)⟩
                  case measure => simp [intOf]; omega
          · obtain rfl : q = n := by omega
            have hdq : decide (q < q) = false := by simp
            have HF := Lib.hid (And.intro Oq (And.intro Xq gq))
            clear Oq Xq gq
            go_wp2_with fail
            go_roundw
            case rel =>
              refine ⟨k + 1, s3, sl3, (fun j => if j < q then (G3 j || (k3 && decide (sl3.getD j 0 = x))) else G3 j), by omega, by omega, by go_num, ⟨?_, HP.out.2.1, by rw [HP.out.2.2.1, HNN.out], fun j hj => HP.out.2.2.2.1 j (by rw [← HNN.out]; exact hj)⟩, fun j hj => ?_, by rw [HNN.out]; exact HP.out.2.2.2.2.1, HF.out.2.2⟩
              · rw [HNN.out]; exact HF.out.1
              · dsimp only
                rw [if_pos (by rw [← HNN.out]; exact hj)]
                exact HP.out.1 j hj
            case measure => simp [intOf]; omega
    · have hds : (k < len ∧ decide ((k : Int) < 60) = false) ∨ ¬ k < len := by
        by_cases hlt : k < len
        · exact .inl ⟨hlt, by simp; omega⟩
        · exact .inr hlt
      clear hgo O
      rcases hds with ⟨hd, hd2⟩ | hd
      all_goals
        go_wp2_with (go_at_call 51; refine (awake29 _).mono ?_; rintro e w9 ⟨rfl, g9⟩)
        go_ret
        exact ⟨rfl, gr.tr g9⟩
end Go.Proofs.Ytkkobbomipcpoaa
