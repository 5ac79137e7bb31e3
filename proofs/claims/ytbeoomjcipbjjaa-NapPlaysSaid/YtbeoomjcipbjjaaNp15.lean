/- The walk of the law NapPlays of chapter 27 (nap): it returns true for every input, and changes nothing that was there. -/
import Derived.Test.YtbeoomjcipbjjaaNp14
namespace Go.Proofs.Ytbeoomjcipbjjaa
open Go.RowKit
set_option linter.unusedVariables false

def NactAt (F : Nat → Nat → Value) (i : Nat) : Prop := ∃ (kd p k2 t : Int), F i 0 = .int .u8 kd ∧ F i 1 = .int .i64 p ∧ F i 2 = .int .i64 k2 ∧ F i 3 = .int .u64 t ∧ (0 ≤ kd ∧ kd ≤ 255) ∧ (0 ≤ t ∧ t ≤ 18446744073709551615)
theorem nacts_of {w : World} {ar : Option Addr} {len cap : Nat} {F : Nat → Nat → Value} (h : RecsIn Try.prog 75 w ar len cap 4 F) : ∀ i, i < len → NactAt F i := fun i hi => by
  obtain ⟨kd, e0, b0⟩ := h.kind 3 i 0 (some .u8) hi (by omega) (by kernel_rfl)
  obtain ⟨p, e1, _⟩ := h.kind 3 i 1 (some .i64) hi (by omega) (by kernel_rfl)
  obtain ⟨k2, e2, _⟩ := h.kind 3 i 2 (some .i64) hi (by omega) (by kernel_rfl)
  obtain ⟨t, e3, b3⟩ := h.kind 3 i 3 (some .u64) hi (by omega) (by kernel_rfl)
  exact ⟨kd, p, k2, t, e0, e1, e2, e3, bd_u8 b0, bd_u64 b3⟩
theorem NB.more {w wr w' : World} {q g C : Nat} {S : List Nat} {r : Nat} {v : Value} {s : TS} {K : Nat → Int} {D : List NE} {k : Nat} (h : NB w wr q g C S r v s K D k) (g' : Gr wr w') : NB w w' q g C S r v s K D k := ⟨h.h.more g', h.nr, h.few⟩
theorem tillV_no {s : TS} {K : Nat → Int} {p : Int} (h : kdS K p = 0) : tillV s K p = .tuple #[.int .u64 0, .bool false] := by unfold tillV; rw [if_pos h]
theorem tillV_yes {s : TS} {K : Nat → Int} {D : List NE} (h : NR s K D) {i : Nat} {x : NE} (hi : D[i]? = some x) (hx : x.pl < 64) : kdS K x.pl = x.kd ∧ tillV s K x.pl = .tuple #[.int .u64 x.ti, .bool true] := by
  obtain ⟨h1, h2, h3⟩ := h.at_ hi
  have hk : kdS K x.pl = x.kd := by rw [kdS_at K hx, h1]
  refine ⟨hk, ?_⟩
  unfold tillV
  rw [if_neg (by rw [hk]; exact h2), Int.toNat_natCast]
  unfold tillS
  rw [h3]
/-- A place that naps: where the document keeps it. -/
theorem dat_at {s : TS} {K : Nat → Int} {D : List NE} (h : NR s K D) {p : Int} (h0 : kdS K p ≠ 0) : ∃ (i : Nat) (x : NE), D[i]? = some x ∧ p = x.pl ∧ x.pl < 64 ∧
    ∀ (r : Nat) (n : Int) (v : Value) (w : World), ND w r n D v → Calls Try.prog 33 #[.pointer (some ⟨r, 0, none⟩), .int .i64 p] w fun e w' => e = .returned (.int .i64 i) ∧ w = w' := by
  have hp : 0 ≤ p ∧ p < 64 := Classical.byContradiction fun e => h0 (kdS_no K e)
  obtain ⟨j, rfl⟩ := Int.eq_ofNat_of_zero_le hp.1
  have hj : j < 64 := by omega
  obtain ⟨x, hx, hxp⟩ := h.all j (by rw [← kdS_at K hj]; exact h0)
  obtain ⟨i, hi, hxi⟩ := List.mem_iff_getElem.1 hx
  have hix : D[i]? = some x := by rw [List.getElem?_eq_getElem hi, hxi]
  refine ⟨i, x, hix, by rw [hxp], by omega, fun r n v w m => (dat r n D v j w m h.le64).mono fun e w' ⟨k, he, hat, hw⟩ => ?_⟩
  rcases hat.neg h with ⟨h1, _⟩ | ⟨_, i2, x2, rfl, hi2, hp2, _⟩
  · exact absurd h1 h0
  · refine ⟨?_, hw⟩
    obtain ⟨hi2', hx2⟩ := List.getElem?_eq_some_iff.1 hi2
    have : i2 = i := by
      rcases Nat.lt_trichotomy i2 i with e | e | e
      · have := (List.pairwise_iff_getElem.1 h.ord i2 i hi2' hi e).1
        rw [hx2, hxi] at this; omega
      · exact e
      · have := (List.pairwise_iff_getElem.1 h.ord i i2 hi hi2' e).1
        rw [hx2, hxi] at this; omega
    rw [this] at he
    exact he
set_option maxRecDepth 100000 in
set_option maxHeartbeats 12000000 in
theorem napPlays_walk (x : Int) (ar : Option Addr) (len cap : Nat) (F : Nat → Nat → Value) (w : World) (hx : 0 ≤ x ∧ x ≤ 18446744073709551615) (h : RecsIn Try.prog 75 w ar len cap 4 F) :
    Calls Try.prog 9 #[.int .u64 x, .slice ar len cap] w fun e w' => e = .returned (.bool true) ∧ Gr w w' := by
  have HA := Lib.hid (nacts_of h)
  have HR := Lib.hid h.row
  have CN := Lib.hid (fun w => nnew x w hx)
  have HXX := Lib.hid hx
  have CW := Lib.hid (awake27)
  obtain ⟨hlen, hcap, _, _⟩ := h
  clear hx
  go_enter Try.func9, Try.ntmps9
  go_upto_region 2 with (go_at_call 20; refine (CN.out _).mono ?_; rintro e w1 hn; obtain ⟨q, g, C, S, rfl, h1⟩ := NF.new hn; clear hn)
  have H1 := Lib.hid h1
  clear h1 CN
  go_upto_region 3 with fail
  have hb0 := Blk.new w1 72 #[.int .u64 x, .slice none 0 0]
  have B0 : NB w (w1.alloc (.cells #[.int .u64 x, .slice none 0 0] 72)) q g C S w1.heap.size (.slice none 0 0) (newS x) (fun _ => 0) [] 0 :=
    ⟨⟨H1.out.more ((Gr.refl w1).al _), ⟨hb0, SC.nil _ _ _⟩, H1.out.gr.size_le, fun y hy => by simp [sb] at hy⟩, NR.new HXX.out, Int.le_refl _⟩
  generalize w1.alloc (.cells #[.int .u64 x, .slice none 0 0] 72) = W0 at *
  generalize w1.heap.size = r at *
  have HB0 := Lib.hid B0
  clear B0 hb0 H1
  go_wp2_with fail
  go_loopw [7, 8, 9, 10, 11, 12] (fun i _ _ _ _ _ wr => ∃ (k : Nat) (S : List Nat) (v : Value) (s : TS) (K : Nat → Int) (D : List NE), k ≤ len ∧ k ≤ 40 ∧ i = .int .i64 k ∧ NB w wr q g C S r v s K D k) (fun i _ _ _ _ _ _ => len - (intOf i).toNat)
  case atStart => exact ⟨0, S, _, _, _, _, by omega, by omega, rfl, HB0.out⟩
  case round =>
    obtain ⟨k, S, v, s, K, D, hk, hk40, rfl, hb⟩ := hrel
    have HH := Lib.hid hb
    clear hb HB0
    by_cases hlt : k < len
    · have hd : decide ((k : Int) < (len : Int)) = true := by simpa using hlt
      by_cases h40 : k < 40
      · have hd2 : decide ((k : Int) < 40) = true := by simp; omega
        rcases HR.out with h0 | ⟨bz, off, rfl, hc⟩
        · omega
        obtain ⟨kd, p, k2, t, e0, e1, e2, e3, hkd, ht⟩ := HA.out k hlt
        have g0 : Gr wr wr.drew := (Gr.refl wr).drew
        have HL := Lib.hid (fun (wx : World) (c : Gr w wx) => (show wx.cell? ⟨bz, off + k * 4, none⟩ = some (.int .u8 kd) ∧ wx.cell? ⟨bz, off + k * 4 + 1, none⟩ = some (.int .i64 p) ∧ wx.cell? ⟨bz, off + k * 4 + 2, none⟩ = some (.int .i64 k2) ∧ wx.cell? ⟨bz, off + k * 4 + 3, none⟩ = some (.int .u64 t) from
          ⟨c.cell_some (by rw [← e0]; exact hc k 0 hlt (by omega)), c.cell_some (by rw [← e1]; exact hc k 1 hlt (by omega)), c.cell_some (by rw [← e2]; exact hc k 2 hlt (by omega)), c.cell_some (by rw [← e3]; exact hc k 3 hlt (by omega))⟩))
        have H0 := Lib.hid (HH.out.more g0)
        have HC := Lib.hid (does27 w wr.drew q g C S r v s K D k kd p k2 t H0.out (by omega) hkd ht)
        obtain ⟨c0, c1, c2, c3⟩ := HL.out wr HH.out.h.nf.gr
        clear e0 e1 e2 e3 hc hkd ht
        go_upto_region 6 with fail
        go_cut [54] (fun z wx => z = .bool false ∧ ∃ S v s K D, NB w wx q g C S r v s K D (k + 1))
        case first =>
          clear HA HR HXX CW HH
          go_region_law (first
            | (go_simp; go_at_call 32; refine (HC.out).mono ?_; rintro e w3 ⟨rfl, S3, v3, s3, K3, D3, h3⟩; have H3 := Lib.hid h3; have h64 := h3.nr.le64; have hcn := h3.nr.len; obtain ⟨a3, cp3, rfl, _, _⟩ := h3.h.nd.row.len; obtain ⟨d0, d1, _⟩ := h3.h.nd.hdr.c2; clear h3)
            | (go_simp; go_at_call 24; refine (nlen q g C S3 s3 K3 _ H3.out.h.nf.m).mono ?_; rw [hcn]; rintro e w4 ⟨rfl, rfl⟩)
            | (go_simp; go_at_call 31; refine (nclock q g C S3 s3 K3 _ H3.out.h.nf.m).mono ?_; rintro e w5 ⟨rfl, rfl⟩))
          all_goals
            go_wp2_with fail
            go_meet
            case rel => exact ⟨rfl, _, _, _, _, _, H3.out⟩
        case rest =>
          obtain ⟨rfl, S3, v3, s3, K3, D3, hb3⟩ := hcut
          have H3 := Lib.hid hb3
          clear hb3 c0 c1 c2 c3 H0 HC HH
          go_wp2_with fail
          go_loopw [8, 9, 10, 11, 12] (fun i _ _ _ _ wy => ∃ j : Nat, j ≤ 66 ∧ i = .int .i64 ((j : Int) - 1) ∧ Gr wc wy) (fun i _ _ _ _ _ => 66 - (intOf i + 1).toNat)
          case atStart => exact ⟨0, by omega, rfl, Gr.refl _⟩
          case round =>
            obtain ⟨j, hj, rfl, gr⟩ := hrel
            have H4 := Lib.hid (H3.out.more gr)
            have HG := Lib.hid gr
            clear gr
            by_cases hjl : j < 66
            · have d1 : decide ((j : Int) - 1 ≤ 64) = true := by simp; omega
              have hj66 : (j : Int) ≤ 66 := by omega
              have HJL := Lib.hid hjl
              clear hjl
              obtain ⟨p, hp⟩ : ∃ p : Int, (j : Int) - 1 = p := ⟨_, rfl⟩
              rw [hp] at d1 ⊢
              have HP := Lib.hid hp
              clear hp
              have hs := fun (z : World) (gz : Gr wr z) => dat r s3.now D3 v3 p z (H4.out.h.nd.gr gz) H4.out.nr.le64
              have hT := fun (z : World) (gz : Gr wr z) => ntill q g C S3 s3 K3 p z (H4.out.h.nf.m.gr gz)
              have hKd := fun (z : World) (gz : Gr wr z) => nkind q g C S3 s3 K3 p z (H4.out.h.nf.m.gr gz)
              by_cases h0 : kdS K3 p = 0
              · have CI := Lib.hid (fun (z : World) (gz : Gr wr z) => (hs z gz).mono (R' := fun e w' => e = .returned (.int .i64 (-1)) ∧ z = w') fun e w' ⟨kk, he, hat, hw⟩ => by
                  rcases hat.neg H4.out.nr with ⟨_, rfl⟩ | ⟨h1, _⟩
                  · exact ⟨he, hw⟩
                  · exact absurd h0 h1)
                rw [tillV_no h0] at hT
                rw [h0] at hKd
                have CT := Lib.hid hT
                have CK := Lib.hid hKd
                clear hs hT hKd h0
                go_upto_region 16 with (first
                  | (go_at_call 33; refine (CI.out _ ((Gr.refl wr).al _)).mono ?_; rintro e w5 ⟨rfl, rfl⟩)
                  | (go_at_call 30; refine (CT.out _ ((Gr.refl wr).al _)).mono ?_; rintro e w5 ⟨rfl, rfl⟩))
                have hb := Blk.new wr 77 #[.int .i64 0, .int .i64 0, .int .u64 0, .bool false]
                have gX : Gr wr (wr.alloc (.cells #[.int .i64 0, .int .i64 0, .int .u64 0, .bool false] 77)) := (Gr.refl wr).al _
                generalize wr.alloc (.cells #[.int .i64 0, .int .i64 0, .int .u64 0, .bool false] 77) = W2 at *
                generalize wr.heap.size = X at *
                have y1 := hb.cell 1
                have y2 := hb.cell 2
                have CK2 := Lib.hid (CK.out W2.drew (gX.tr (Gr.refl W2).drew))
                have GX := Lib.hid gX
                clear hb CK gX
                go_region_held3 (fun w' => w'.cell? ⟨X, 1, none⟩ = some (.int .i64 0) ∧ w'.cell? ⟨X, 2, none⟩ = some (.int .u64 0))
                  (first | exact ⟨y1, y2⟩)
                  (first
                  | (go_at_call 23; refine (CK2.out).mono ?_; rintro e w5 ⟨rfl, rfl⟩))
                all_goals
                  go_wp2_with fail
                  go_roundw
                  case rel => exact ⟨j + 1, by have := HJL.out; omega, by rw [← HP.out]; congr 1; rw [IntWalk.wrap64_in _ (by omega)]; omega, HG.out.tr (GX.out.tr (Gr.refl W2).drew)⟩
                  case measure => rw [← HP.out, IntWalk.wrap64_in _ (by omega)]; have := HJL.out; simp [intOf]; omega
              · obtain ⟨i, y, hy, rfl, hy64, hAt⟩ := dat_at H4.out.nr h0
                obtain ⟨hk1, ht1⟩ := tillV_yes H4.out.nr hy hy64
                rw [ht1] at hT
                rw [hk1] at hKd
                have hil := (List.getElem?_eq_some_iff.1 hy).1
                have CI := Lib.hid (fun (z : World) (gz : Gr wr z) => hAt r s3.now v3 z (H4.out.h.nd.gr gz))
                have CT := Lib.hid hT
                have CK := Lib.hid hKd
                have q2 : (i : Int) < (D3.length : Int) := by omega
                obtain ⟨d0, d1, df⟩ := H4.out.h.nd.hdr.c2
                have hrr := H4.out.h.nd.hdr.lt
                obtain ⟨b, o, c, he, _, _, hc, _, hbl⟩ := H4.out.h.nd.row.cells (by omega)
                obtain ⟨e0, e1, e2, e3⟩ := encD_get D3 i y hy
                have z0 := hc _ _ e0
                have z1 := hc _ _ e1
                have z2 := hc _ _ e2
                have z3 := hc _ _ e3
                rw [← Nat.add_assoc] at z1 z2 z3
                rw [he] at d1
                obtain ⟨pl, kd, ti, nv⟩ := y
                dsimp only at z0 z1 z2 z3 CI CT CK HP d1 ⊢
                clear hs hT hKd h0 hAt hk1 ht1 hc e0 e1 e2 e3 he hy
                go_upto_region 16 with (first
                  | (go_at_call 33; refine (CI.out _ ((Gr.refl wr).al _)).mono ?_; rintro e w5 ⟨rfl, rfl⟩)
                  | (go_at_call 30; refine (CT.out _ ((Gr.refl wr).al _)).mono ?_; rintro e w5 ⟨rfl, rfl⟩))
                have hb := Blk.new wr 77 #[.int .i64 pl, .int .i64 kd, .int .u64 ti, .bool nv]
                have gX : Gr wr (wr.alloc (.cells #[.int .i64 pl, .int .i64 kd, .int .u64 ti, .bool nv] 77)) := (Gr.refl wr).al _
                generalize wr.alloc (.cells #[.int .i64 pl, .int .i64 kd, .int .u64 ti, .bool nv] 77) = W2 at *
                generalize wr.heap.size = X at *
                have y1 := hb.cell 1
                have y2 := hb.cell 2
                have CK2 := Lib.hid (CK.out W2.drew (gX.tr (Gr.refl W2).drew))
                have GX := Lib.hid gX
                clear hb CK gX z0 z1 z2 z3 d0 d1 df
                have q3 : (kd != kd) = false := by simp
                have q4 : (ti != ti) = false := by simp
                go_region_held3 (fun w' => w'.cell? ⟨X, 1, none⟩ = some (.int .i64 kd) ∧ w'.cell? ⟨X, 2, none⟩ = some (.int .u64 ti))
                  (first | exact ⟨y1, y2⟩)
                  (first
                  | (go_at_call 23; refine (CK2.out).mono ?_; rintro e w5 ⟨rfl, rfl⟩))
                all_goals
                  go_wp2_with fail
                  go_roundw
                  case rel => exact ⟨j + 1, by have := HJL.out; omega, by have := HP.out; congr 1; (try rw [IntWalk.wrap64_in _ (by omega)]); omega, HG.out.tr (GX.out.tr (Gr.refl W2).drew)⟩
                  case measure => have := HP.out; have := HJL.out; (try rw [IntWalk.wrap64_in _ (by omega)]); simp [intOf]; omega
            · obtain rfl : j = 66 := by omega
              go_wp2_with fail
              go_roundw
              case rel => exact ⟨k + 1, S3, v3, s3, K3, D3, by omega, by omega, by go_num, H3.out.more HG.out⟩
              case measure => simp [intOf]; omega
      · obtain rfl : k = 40 := by omega
        go_wp2_with (go_at_call 25; refine (CW.out _).mono ?_; rintro e w8 ⟨rfl, g8⟩)
        go_ret
        exact ⟨rfl, HH.out.h.nf.gr.tr g8⟩
    · obtain rfl : k = len := by omega
      go_wp2_with (go_at_call 25; refine (CW.out _).mono ?_; rintro e w8 ⟨rfl, g8⟩)
      go_ret
      exact ⟨rfl, HH.out.h.nf.gr.tr g8⟩
end Go.Proofs.Ytbeoomjcipbjjaa
