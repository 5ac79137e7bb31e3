/- The contract of a wheel's Cancel, for every input. -/
import Derived.Test.YtbeoomjcipbjjaaWl8
namespace Go.Proofs.Ytbeoomjcipbjjaa
open Go.RowKit
set_option linter.unusedVariables false

theorem delL_upd (L : Nat → List Int) (j : Nat) (x : Int) : updT L j ((L j).filter fun y => !decide (y = x)) = delL L j x := by
  funext i
  unfold updT delL
  split
  · rename_i h; rw [h]
  · rfl
def canS (s : TS) (p : Int) : TS := if hasB s p then canT s p.toNat else s
theorem wcan_nil (p : Int) (w : World) : Calls Try.prog 29 #[.pointer none, .int .i64 p] w fun e w' => e = .returned (.bool false) ∧ Gr w w' := by
  go_enter Try.func29, Try.ntmps29
  go_wp2_with (go_at_call 35; refine (whas_nil _ _).mono ?_; rintro e w' ⟨rfl, rfl⟩)
  go_ret
  exact ⟨rfl, (Gr.refl _).al _⟩
set_option maxHeartbeats 2000000 in
theorem wcan (g : Nat) (S : List Nat) (s : TS) (p : Int) (w : World) (h : WA w g S s) :
    Calls Try.prog 29 #[.pointer (some ⟨g, 0, none⟩), .int .i64 p] w fun e w' => e = .returned (.bool (hasB s p)) ∧ WTo g S (canS s p) w w' := by
  have tg := h.tg
  obtain ⟨L, V, m, rfl, li⟩ := h.ex
  have HW := Lib.hid (fun w m => whas g s L V p w m (fun q => (tg.no0 q).1))
  have HA := Lib.hid h
  by_cases hb : hasB s p = true
  · obtain ⟨i, rfl, hi, hn⟩ := hasB_yes hb
    have HS := Lib.hid (show canS s i = canT s i by unfold canS; rw [if_pos hb]; rfl)
    rw [hb] at HW ⊢
    have i1 : (i : Int) < 64 := by omega
    have hj := hJ_lt s.now (s.du i)
    have hmem := li.all i hi hn
    have hli := li.can i
    have htg := tg.can i
    have hlen := li.len (hJ s.now (s.du i))
    have hz : ∀ x ∈ L (hJ s.now (s.du i)), 0 ≤ x ∧ x < 64 := fun x hx => by
      obtain ⟨q, rfl, h1, _⟩ := li.mem _ x hx; omega
    have CH := Lib.hid (fun w' (k : Gr w w') => home_any g s L V (s.du i) w' (m.gr k) ⟨tg.now0, tg.nowM⟩ (tg.du0 i))
    have HG := Lib.hid (And.intro htg (And.intro hli (And.intro hmem (And.intro hlen hz))))
    have M := Lib.hid (m.gr ((Gr.refl w).al (.cells #[.int .i64 (i : Int)] 3)))
    have HB := Lib.hid (Blk.new w 3 #[.int .i64 (i : Int)])
    have G1 := Lib.hid ((Gr.refl w).al (.cells #[.int .i64 (i : Int)] 3))
    have HI := Lib.hid m.inn
    clear m li tg h hb hn hli htg hmem hlen hz
    go_enter Try.func29, Try.ntmps29
    go_upto_region 3 with (go_at_call 35; refine (HW.out _ M.out).mono ?_; rintro e w' ⟨rfl, rfl⟩)
    generalize w.alloc (.cells #[.int .i64 (i : Int)] 3) = W at *
    obtain ⟨C, hC⟩ : ∃ C, w.heap.size = C := ⟨_, rfl⟩
    rw [hC] at HB ⊢
    have HCe := Lib.hid hC
    clear hC
    obtain ⟨t0, t1⟩ := M.out.tm hi
    have b0 := HB.out.cell 0
    clear t1
    obtain ⟨j, hjj⟩ : ∃ j, hJ s.now (s.du i) = j := ⟨_, rfl⟩
    obtain ⟨a, haa⟩ : ∃ a, s.du i = a := ⟨_, rfl⟩
    rw [hjj] at CH HG hj
    rw [haa] at CH t0
    clear hjj haa
    go_region_held3 (fun w' => w'.cell? ⟨C, 0, none⟩ = some (.int .i64 i) ∧ w'.cell? ⟨g, 2 + i * 2, none⟩ = some (.int .u64 a))
      (first | exact ⟨b0, t0⟩ | exact ⟨G2.out.cell_some b0, G2.out.cell_some t0⟩)
      (first | (go_at_call 52; refine (CH.out _ G1.out.drew).mono ?_; rintro e w1 ⟨rfl, g1⟩; have G2 := Lib.hid (((Gr.refl W).drew).tr g1)))
    all_goals
      have M1 := Lib.hid (M.out.gr G2.out)
      have B1 := Lib.hid (HB.out.gr G2.out)
      have hc := M1.out.ls hj
      have b1 := B1.out.cell 0
      obtain ⟨n, k, hv, _, _⟩ := (M1.out.sl j hj).len
      rw [hv] at hc
      have hCV : C ∉ sb (V j) := fun hm => by
        have := HI.out C (sb_wfp (g := g) hj C hm)
        have := HCe.out
        omega
      have CD := Lib.hid (wdel C i hi (L j) (.slice n (L j).length k) w1 (hv ▸ M1.out.sl j hj) HG.out.2.2.2.2 (by have := HG.out.2.2.2.1; omega) (List.length_pos_of_mem HG.out.2.2.1) b1 (by rw [← hv]; exact hCV))
      rw [← hv, ] at CD
      rw [hv] at CD
      have HV := Lib.hid (And.intro hv hCV)
      have hgl := M1.out.hdr.lt
      clear b0 t0 hv hCV
      go_upto_region 5 with (go_at_call 53; refine (CD.out).mono ?_; rintro e w2 ⟨v2, rfl, r2, k2, f2⟩; have HR := Lib.hid (And.intro r2 (And.intro k2 f2)); obtain ⟨n2, c2, hv2, _, _⟩ := r2.len; have hc2 := (M1.out.hdr.ch k2 (by rw [← HV.out.1]; exact M1.out.notg hj)).cell (i := 130 + j) (by omega); have hf2 := (M1.out.hdr.ch k2 (by rw [← HV.out.1]; exact M1.out.notg hj)).frozen (130 + j); subst hv2; clear r2 k2 f2)
      have hsb : sb (.slice n2 ((L j).filter fun y => !decide (y = (i : Int))).length c2) = sb (V j) := by rw [HV.out.1]; exact HR.out.2.2
      have hk2 : Ch (sb (V j)) w1 w2 := by rw [HV.out.1]; exact HR.out.2.1
      have hfoot : Foot w1 (sb (V j)) (sb (.slice n2 ((L j).filter fun y => !decide (y = (i : Int))).length c2)) := by rw [hsb]; exact Foot.refl _ _
      have M5 := M1.out.setL hj hk2 hfoot HR.out.1
      rw [delL_upd] at M5
      have hCg : C ≠ g := fun e => by
        have := HI.out g (mem_wfp.2 (.inl rfl))
        have := HCe.out
        omega
      have B5 := ((B1.out.ch hk2 HV.out.2).far (p := ⟨g, 130 + j, none⟩) hCg (.slice n2 ((L j).filter fun y => !decide (y = (i : Int))).length c2))
      have K5 : Ch (wfp g V) w (w2.setCell ⟨g, 130 + j, none⟩ (.slice n2 ((L j).filter fun y => !decide (y = (i : Int))).length c2)) :=
        ((((G1.out.tr G2.out).ch (wfp g V)).tr hk2 (fun b hb => .inl (sb_wfp hj b hb))).st (.inl (mem_wfp.2 (.inl rfl))) _)
      have F5 : Foot w (wfp g V) (wfp g (updT V j (.slice n2 ((L j).filter fun y => !decide (y = (i : Int))).length c2))) := fun b hb => by
        rcases wfp_upd hj hfoot b hb with h1 | h1
        · exact .inl h1
        · exact .inr (by have := (G1.out.tr G2.out).size_le; omega)
      have H5 := Lib.hid (And.intro M5 (And.intro K5 F5))
      have HB5 := Lib.hid B5
      clear hc b1 hgl hc2 hf2 hsb hk2 hfoot M5 hCg B5 K5 F5
      generalize updT V j (.slice n2 ((L j).filter fun y => !decide (y = (i : Int))).length c2) = V5 at *
      generalize w2.setCell ⟨g, 130 + j, none⟩ (.slice n2 ((L j).filter fun y => !decide (y = (i : Int))).length c2) = W5 at *
      obtain ⟨c3, c4⟩ := H5.out.1.tm hi
      obtain ⟨_, _, cf⟩ := H5.out.1.head
      have b5 := HB5.out.cell 0
      generalize s.du i = z1 at c3
      generalize s.no i = z2 at c4
      go_region_law (fail)
      all_goals
        go_wp2
        go_ret
        rw [HS.out]
        refine ⟨rfl, wfp g V5, ⟨⟨_, V5, (H5.out.1.stTm hi 0 0).gr ((Gr.refl _).drew), rfl, HG.out.2.1⟩, HG.out.1⟩, ((H5.out.2.1.st (.inl (mem_wfp.2 (.inl rfl))) _).st (.inl (mem_wfp.2 (.inl rfl))) _).drew, H5.out.2.2⟩
  · have hb : hasB s p = false := by simpa using hb
    have HS := Lib.hid (show canS s p = s by unfold canS; rw [hb]; rfl)
    rw [hb] at HW ⊢
    have M := Lib.hid (m.gr ((Gr.refl w).al (.cells #[.int .i64 p] 3)))
    clear m li tg h hb
    go_enter Try.func29, Try.ntmps29
    go_wp2_with (go_at_call 35; refine (HW.out _ M.out).mono ?_; rintro e w' ⟨rfl, rfl⟩)
    go_ret
    rw [HS.out]
    exact ⟨rfl, WTo.of_gr HA.out ((Gr.refl _).al _)⟩
end Go.Proofs.Ytbeoomjcipbjjaa
