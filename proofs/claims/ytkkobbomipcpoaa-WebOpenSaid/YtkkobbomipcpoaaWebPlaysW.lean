/- The walk of the law WebPlays of chapter 24 (web): it returns true for every input, and changes nothing that was there. -/
import Derived.Test.YtkkobbomipcpoaaWebE
namespace Go.Proofs.Ytkkobbomipcpoaa
open Go.RowKit
set_option linter.unusedVariables false
theorem both_new {w1 w2 : World} {g a b h n m : Nat} {vo vl vj : Value} (l1 : WebAt w1 g a b (webS0 n m)) (r2 : RefAt w2 h vo vl vj (webS0 n m)) (g2 : Gr w1 w2) (k2 : ∀ k ∈ h :: rows3 vo vl vj, w1.heap.size ≤ k) : Both w2 g a b h vo vl vj (webS0 n m) :=
  ⟨l1.gr g2, r2, fun x hx hm => by have h1 := k2 x hx; have h2 := l1.inn x hm; omega⟩
set_option maxRecDepth 100000 in
set_option maxHeartbeats 4000000 in
theorem webPlays_walk (x y : Int) (ad : Option Addr) (len cap : Nat) (F : Nat → Nat → Value) (w : World) (hx : -9223372036854775808 ≤ x ∧ x ≤ 9223372036854775807) (hy : -9223372036854775808 ≤ y ∧ y ≤ 9223372036854775807) (h : RecsIn Try.prog 42 w ad len cap 3 F) :
    Calls Try.prog 8 #[.int .i64 x, .int .i64 y, .slice ad len cap] w fun e w' => e = .returned (.bool true) ∧ Gr w w' := by
  obtain ⟨hlen, hcap, hrow, hkind⟩ := h
  have hk0 : ∀ i, i < len → ∃ n, F i 0 = .int .u8 n ∧ 0 ≤ n ∧ n ≤ 255 := fun i hi => by
    obtain ⟨n, h1, h2⟩ := hkind 2 i 0 (some .u8) hi (by omega) (by kernel_rfl); exact ⟨n, h1, bd_u8 h2⟩
  have hk1 : ∀ i, i < len → ∃ n, F i 1 = .int .i64 n := fun i hi => by
    obtain ⟨n, h1, h2⟩ := hkind 2 i 1 (some .i64) hi (by omega) (by kernel_rfl); exact ⟨n, h1⟩
  have hk2 : ∀ i, i < len → ∃ n, F i 2 = .int .i64 n := fun i hi => by
    obtain ⟨n, h1, h2⟩ := hkind 2 i 2 (some .i64) hi (by omega) (by kernel_rfl); exact ⟨n, h1⟩
  have HK := Lib.hid (And.intro hk0 (And.intro hk1 hk2))
  have HR := Lib.hid hrow
  clear hkind hk0 hk1 hk2 hrow
  go_enter Try.func8, Try.ntmps8
  go_upto_region 1 with fail
  go_cut [15] (fun s wx => (∃ p : Bool, s = .bool p ∧ (p = true → 9 < x ∧ x < 60)) ∧ w = wx)
  case first =>
    by_cases h1 : 9 < x
    · have hd1 : decide (9 < x) = true := by simpa using h1
      by_cases h2 : x < 60
      · have hd2 : decide (x < 60) = true := by simpa using h2
        go_wp2_with fail
        go_meet
        case rel => exact ⟨⟨true, rfl, fun _ => ⟨h1, h2⟩⟩, rfl⟩
      · have hd2 : decide (x < 60) = false := by simpa using h2
        go_wp2_with fail
        go_meet
        case rel => exact ⟨⟨false, rfl, fun h => by cases h⟩, rfl⟩
    · have hd1 : decide (9 < x) = false := by simpa using h1
      go_wp2_with fail
      go_meet
      case rel => exact ⟨⟨false, rfl, fun h => by cases h⟩, rfl⟩
  case rest =>
  obtain ⟨⟨p, rfl, hp⟩, rfl⟩ := hcut
  go_upto_if 15 with fail
  go_cut [0] (fun v wx => (∃ n : Int, v = .int .i64 n) ∧ w = wx)
  case first =>
    cases p
    · go_wp2_with fail
      go_meet
      case rel => exact ⟨⟨_, rfl⟩, rfl⟩
    · have hx' := hp rfl
      go_wp2_with fail
      go_meet
      case rel => exact ⟨⟨_, rfl⟩, rfl⟩
  case rest =>
  obtain ⟨⟨X, rfl⟩, rfl⟩ := hcut
  clear hx hp
  go_upto_region 3 with fail
  go_cut [23] (fun s wx => (∃ p : Bool, s = .bool p ∧ (p = true → 9 < y ∧ y < 60)) ∧ w = wx)
  case first =>
    by_cases h1 : 9 < y
    · have hd1 : decide (9 < y) = true := by simpa using h1
      by_cases h2 : y < 60
      · have hd2 : decide (y < 60) = true := by simpa using h2
        go_wp2_with fail
        go_meet
        case rel => exact ⟨⟨true, rfl, fun _ => ⟨h1, h2⟩⟩, rfl⟩
      · have hd2 : decide (y < 60) = false := by simpa using h2
        go_wp2_with fail
        go_meet
        case rel => exact ⟨⟨false, rfl, fun h => by cases h⟩, rfl⟩
    · have hd1 : decide (9 < y) = false := by simpa using h1
      go_wp2_with fail
      go_meet
      case rel => exact ⟨⟨false, rfl, fun h => by cases h⟩, rfl⟩
  case rest =>
  obtain ⟨⟨p, rfl, hp⟩, rfl⟩ := hcut
  go_upto_if 23 with fail
  go_cut [1] (fun v wx => (∃ n : Int, v = .int .i64 n) ∧ w = wx)
  case first =>
    cases p
    · go_wp2_with fail
      go_meet
      case rel => exact ⟨⟨_, rfl⟩, rfl⟩
    · have hx' := hp rfl
      go_wp2_with fail
      go_meet
      case rel => exact ⟨⟨_, rfl⟩, rfl⟩
  case rest =>
  obtain ⟨⟨Y, rfl⟩, rfl⟩ := hcut
  clear hy hp
  go_wp2_with fail
  refine (webNew_any X Y _).mono ?_
  rintro e w1 ⟨g, a, b, rfl, l1, g1, k1⟩
  go_wp2_with fail
  refine (rnew X Y _).mono ?_
  rintro e w2 ⟨h, vo, vl, vj, rfl, r2, g2, k2⟩
  have HS := Lib.hid (show ∀ x ∈ [a, b] ++ rows3 vo vl vj, w.heap.size ≤ x from fun x hx => by
    rcases List.mem_append.1 hx with hx | hx
    · exact k1 x (List.mem_cons_of_mem _ hx)
    · have := k2 x (List.mem_cons_of_mem _ hx); have := g1.size_le; omega)
  have HT := Lib.hid (And.intro (both_new l1 r2 g2 k2) (g1.tr g2))
  generalize webS0 (clampI X 0 64).toNat (clampI Y 0 64).toNat = s0 at HT
  clear l1 g1 k1 r2 g2 k2
  go_wp2_with fail
  go_loopw [9] (fun i wr => ∃ (k : Nat) (s : WebS), k ≤ len ∧ k ≤ 40 ∧ i = .int .i64 k ∧ Both wr g a b h vo vl vj s ∧ Gr w wr) (fun i _ => len - (intOf i).toNat)
  case atStart => exact ⟨0, s0, by omega, by omega, rfl, HT.out⟩
  case round =>
    obtain ⟨k, s, hk, hk40, rfl, B, gr⟩ := hrel
    clear HT
    by_cases hgo : k < len ∧ k < 40
    · obtain ⟨hlt, h40⟩ := hgo
      have hd : decide ((k : Int) < (len : Int)) = true := by simpa using hlt
      have hd2 : decide ((k : Int) < 40) = true := by simp; omega
      rcases HR.out with h0 | ⟨bz, off, rfl, hc⟩
      · omega
      obtain ⟨kd, e0, hkd⟩ := HK.out.1 k hlt
      obtain ⟨A, e1⟩ := HK.out.2.1 k hlt
      obtain ⟨Z, e2⟩ := HK.out.2.2 k hlt
      have c0 := hc k 0 hlt (by omega)
      have c1 := hc k 1 hlt (by omega)
      have c2 := hc k 2 hlt (by omega)
      rw [e0] at c0
      rw [e1] at c1
      rw [e2] at c2
      clear e0 e1 e2 hc
      simp only [Nat.add_zero] at c0
      have HC := Lib.hid (And.intro c0 (And.intro c1 c2))
      replace c0 := gr.cell_some c0
      replace c1 := gr.cell_some c1
      replace c2 := gr.cell_some c2
      have GD := Lib.hid gr.drew
      have CD := Lib.hid (does24 g a b h vo vl vj s wr.drew kd A Z (B.gr (Gr.refl wr).drew) hkd)
      generalize actS s (kd % 4) A Z = s' at *
      clear B
      have C25 := Lib.hid (fun w' (b' : Both w' g a b h vo vl vj s') => closes_any g a b s' w' b'.l A Z)
      have C39 := Lib.hid (fun w' (b' : Both w' g a b h vo vl vj s') => rcloses h vo vl vj s' w' b'.r A Z)
      obtain ⟨q, hq⟩ : ∃ q, s'.closes A Z = q := ⟨_, rfl⟩
      rw [hq] at C25 C39
      have hqq : (q != q) = false := by simp
      clear hq
      go_upto_region 10 with fail
      go_region_held3 (fun w' => w'.cell? ⟨bz, off + k * 3, none⟩ = some (.int .u8 kd) ∧ w'.cell? ⟨bz, off + k * 3 + 1, none⟩ = some (.int .i64 A) ∧ w'.cell? ⟨bz, off + k * 3 + 2, none⟩ = some (.int .i64 Z))
        (first | exact ⟨G4.cell_some HC.out.1, G4.cell_some HC.out.2.1, G4.cell_some HC.out.2.2⟩ | exact ⟨G3.cell_some HC.out.1, G3.cell_some HC.out.2.1, G3.cell_some HC.out.2.2⟩ | exact ⟨G2.cell_some HC.out.1, G2.cell_some HC.out.2.1, G2.cell_some HC.out.2.2⟩ | exact ⟨c0, c1, c2⟩)
        (first
        | (go_at_call 26; refine (CD.out).mono ?_; rintro e w3 ⟨rfl, b3, ch3⟩; have G2 := GD.out.chs ch3 HS.out)
        | (go_at_call 25; refine (C25.out _ b3).mono ?_; rintro e w4 ⟨rfl, g4⟩; have G3 := G2.tr g4)
        | (go_at_call 39; refine (C39.out _ (b3.gr g4)).mono ?_; rintro e w5 ⟨rfl, g5⟩; have G4 := G3.tr g5))
      all_goals
        have b5 := (b3.gr g4).gr g5
        clear c0 c1 c2
        obtain ⟨ao, co, hvo, ho1, ho2⟩ := b5.r.ow.hd
        obtain ⟨al, cl, hvl, hl1, hl2⟩ := b5.r.lk.hd
        obtain ⟨d0, d1, d2, df⟩ := b5.r.hdr.c3
        have hn64 := b5.l.ok.n64
        have hm64 := b5.l.ok.m64
        rw [hvo] at d0
        rw [hvl] at d1
        have C40 := Lib.hid (tells24 g a b h vo vl vj s' w5 b5)
        have HB5 := Lib.hid b5
        clear b5 b3 ch3 g4 g5 G2 G3
        by_cases hs1 : s'.n < 10
        · have t1 : decide ((s'.n : Int) < 10) = true := by simp; omega
          by_cases hs2 : s'.m < 10
          · have t2 : decide ((s'.m : Int) < 10) = true := by simp; omega
            go_wp2_with (go_at_call 40; refine (C40.out).mono ?_; rintro e w6 ⟨rfl, g6⟩)
            go_roundw
            case rel => exact ⟨k + 1, s', by omega, by omega, by go_num, HB5.out.gr g6, G4.tr g6⟩
            case measure => simp [intOf]; omega
          · have t2 : decide ((s'.m : Int) < 10) = false := by simp; omega
            by_cases h39 : k = 39
            · have t3 : ((k : Int) == 39) = true := by simp; omega
              go_wp2_with (go_at_call 40; refine (C40.out).mono ?_; rintro e w6 ⟨rfl, g6⟩)
              go_roundw
              case rel => exact ⟨k + 1, s', by omega, by omega, by go_num, HB5.out.gr g6, G4.tr g6⟩
              case measure => simp [intOf]; omega
            · have t3 : ((k : Int) == 39) = false := by simp; omega
              go_wp2_with fail
              go_roundw
              case rel => exact ⟨k + 1, s', by omega, by omega, by go_num, HB5.out, G4⟩
              case measure => simp [intOf]; omega
        · have t1 : decide ((s'.n : Int) < 10) = false := by simp; omega
          by_cases h39 : k = 39
          · have t3 : ((k : Int) == 39) = true := by simp; omega
            go_wp2_with (go_at_call 40; refine (C40.out).mono ?_; rintro e w6 ⟨rfl, g6⟩)
            go_roundw
            case rel => exact ⟨k + 1, s', by omega, by omega, by go_num, HB5.out.gr g6, G4.tr g6⟩
            case measure => simp [intOf]; omega
          · have t3 : ((k : Int) == 39) = false := by simp; omega
            go_wp2_with fail
            go_roundw
            case rel => exact ⟨k + 1, s', by omega, by omega, by go_num, HB5.out, G4⟩
            case measure => simp [intOf]; omega
    · have C40 := Lib.hid (tells24 g a b h vo vl vj s wr B)
      have hds : (k < len ∧ decide ((k : Int) < 40) = false) ∨ ¬ k < len := by
        by_cases hlt : k < len
        · exact .inl ⟨hlt, by simp; omega⟩
        · exact .inr hlt
      clear hgo B
      rcases hds with ⟨hd, hd2⟩ | hd
      all_goals
        go_wp2_with (first
          | (go_at_call 40; refine (C40.out).mono ?_; rintro e w8 ⟨rfl, g8⟩)
          | (go_at_call 31; refine (awake24_any _).mono ?_; rintro e w9 ⟨rfl, g9⟩))
        go_ret
        exact ⟨rfl, (gr.tr g8).tr g9⟩
end Go.Proofs.Ytkkobbomipcpoaa
