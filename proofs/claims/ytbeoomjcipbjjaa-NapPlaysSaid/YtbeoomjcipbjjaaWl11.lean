/- The contract of a wheel's Turn, for every input. -/
import Derived.Test.YtbeoomjcipbjjaaWl10
namespace Go.Proofs.Ytbeoomjcipbjjaa
open Go.RowKit Go.Shelf Go.Sort Go.Lib
set_option linter.unusedVariables false

/-- A slice is handed out, and the wheel is as s' says. -/
def Turned (g : Nat) (S : List Nat) (s' : TS) (P : List Int → Prop) (w : World) (e : Ending) (w' : World) : Prop :=
  ∃ v l S', e = .returned v ∧ P l ∧ Sl 3 .i64 w' v l ∧ WA w' g S' s' ∧ Ch S w w' ∧ Foot w S S' ∧ Disj (sb v) S' ∧ Foot w S (sb v)
def noCmp (s : TS) (a b : Fin 64) : Int := cmpI (s.no a.val) (s.no b.val)
theorem noCmp_lt (s : TS) (a b : Fin 64) : ltOf (noCmp s) a b = decide (s.no a.val < s.no b.val) := by
  unfold ltOf noCmp cmpI
  by_cases h1 : s.no a.val < s.no b.val
  · simp [h1]
  · by_cases h2 : s.no b.val < s.no a.val <;> simp [h1, h2]
theorem noCmp_swo (s : TS) : SWO (ltOf (noCmp s)) where
  irrefl x := by rw [noCmp_lt]; simp
  trans x y z h1 h2 := by rw [noCmp_lt] at *; simp at *; omega
  ntrans x y z h1 h2 := by rw [noCmp_lt] at *; simp at *; omega
theorem CloR.ch {W W' : World} {C g b : Nat} {s : TS} (h : CloR W C g s) (k : Ch [b] W W') (hC : C ≠ b) (hg : g ≠ b) : CloR W' C g s :=
  ⟨k.cell h.box (by simpa using hC), fun p hp => ⟨k.cell (h.tm p hp).1 (by simpa using hg), k.cell (h.tm p hp).2 (by simpa using hg)⟩⟩
theorem no_lays {W : World} {C g : Nat} {s : TS} (h : CloR W C g s) {blk off n : Nat} (hC : C ≠ blk) (hg : g ≠ blk) : CmpLays1 Try.prog 39 #[.pointer (some ⟨C, 0, none⟩)] encP (noCmp s) blk off n W := by
  intro m os dk _ x y
  have k : Ch [blk] W (sortWorld encP W blk off m dk os) := ((((Gr.refl W).ahead m).ch [blk]).putRow (by simp) off dk).more ((Gr.refl _).grow os)
  exact (turn1 C g s x.val y.val _ (h.ch k hC hg) x.isLt y.isLt).mono fun e w' ⟨he, q, hq⟩ => ⟨he, q, #[], by rw [hq, grow_empty]⟩
/-- The places of l have no timers any more. -/
def clrT (s : TS) (l : List Int) : TS := ⟨s.now, s.last, fun p => if (p : Int) ∈ l then 0 else s.du p, fun p => if (p : Int) ∈ l then 0 else s.no p⟩
theorem clrT_nil (s : TS) : clrT s [] = s := by cases s; simp [clrT]
theorem clrT_step (s : TS) (l : List Int) (p : Nat) : (⟨(clrT s l).now, (clrT s l).last, updT (clrT s l).du p 0, updT (clrT s l).no p 0⟩ : TS) = clrT s (l ++ [(p : Int)]) := by
  unfold clrT updT
  congr 1
  · funext q
    by_cases h : q = p
    · subst h; simp
    · have : ¬ (q : Int) = p := by omega
      simp [h, this]
  · funext q
    by_cases h : q = p
    · subst h; simp
    · have : ¬ (q : Int) = p := by omega
      simp [h, this]
theorem clrT_turn {s : TS} (t : TG s) {l : List Int} (h : IsDue s l) : clrT ⟨s.now + 1, s.last, s.du, s.no⟩ l = turnT s := by
  have key : ∀ p : Nat, (p : Int) ∈ l ↔ s.du p = s.now + 1 := fun p => by
    rw [h.2]
    constructor
    · rintro ⟨q, hq, _, _, h1⟩
      obtain rfl : p = q := by omega
      exact h1
    · intro h1
      have n0 := t.now0
      have hn : s.no p ≠ 0 := fun e => by have := t.zero p e; omega
      exact ⟨p, rfl, Classical.byContradiction fun e => hn (t.big p (by omega)), hn, h1⟩
  unfold clrT turnT
  congr 1
  · funext p
    by_cases e : s.du p = s.now + 1
    · rw [if_pos e]; exact if_pos ((key p).2 e)
    · rw [if_neg e]; exact if_neg (fun h => e ((key p).1 h))
  · funext p
    by_cases e : s.du p = s.now + 1
    · rw [if_pos e]; exact if_pos ((key p).2 e)
    · rw [if_neg e]; exact if_neg (fun h => e ((key p).1 h))
/-- The sorted list is what is due. -/
theorem due_of_sort {s : TS} (t : TG s) {D zs : List Int} (hD : ∀ x : Int, x ∈ D ↔ ∃ p : Nat, x = p ∧ p < 64 ∧ s.no p ≠ 0 ∧ s.du p = s.now + 1) (hn : D.Nodup) (hp : zs.Perm D) (hs : zs.Pairwise (fun x y => ltOf (noCmp s) (toP y) (toP x) = false)) : IsDue s zs := by
  have hm : ∀ x, x ∈ zs ↔ x ∈ D := fun x => hp.mem_iff
  have hz : zs.Nodup := hp.nodup_iff.2 hn
  refine ⟨?_, fun x => (hm x).trans (hD x)⟩
  have hb : zs.Pairwise (fun x y => x ≠ y ∧ ltOf (noCmp s) (toP y) (toP x) = false) := hz.and hs
  refine hb.imp_of_mem fun {x y} hx hy hxy => ?_
  obtain ⟨p, rfl, p1, p2, _⟩ := (hD x).1 ((hm x).1 hx)
  obtain ⟨q, rfl, q1, q2, _⟩ := (hD y).1 ((hm y).1 hy)
  have h1 := hxy.2
  rw [noCmp_lt] at h1
  rw [show (toP (q : Int)).val = q by unfold toP; show ((q : Int).toNat % 64) = q; rw [Int.toNat_natCast]; omega, show (toP (p : Int)).val = p by unfold toP; show ((p : Int).toNat % 64) = p; rw [Int.toNat_natCast]; omega] at h1
  have h2 : ¬ s.no q < s.no p := by simpa using h1
  have h3 : s.no p ≠ s.no q := fun e => hxy.1 (by rw [t.one p q e p2])
  rw [Int.toNat_natCast, Int.toNat_natCast]
  omega
theorem wturn_nil (w : World) : Calls Try.prog 13 #[.pointer none] w fun e w' => e = .returned (.slice none 0 0) ∧ Gr w w' := by
  go_enter Try.func13, Try.ntmps13
  go_wp2
  go_ret
  exact ⟨rfl, (Gr.refl _).al _⟩
theorem wturn_top (g : Nat) (S : List Nat) (s : TS) (w : World) (h : WA w g S s) (hM : s.now = 18446744073709551615) : Calls Try.prog 13 #[.pointer (some ⟨g, 0, none⟩)] w fun e w' => e = .returned (.slice none 0 0) ∧ Gr w w' := by
  obtain ⟨L, V, m, rfl, li⟩ := h.ex
  obtain ⟨c0, _, _⟩ := m.head
  have hg := m.hdr.lt
  have hd : (s.now == 18446744073709551615) = true := by simpa using hM
  clear h m li hM
  generalize s.now = n at *
  go_enter Try.func13, Try.ntmps13
  go_wp2
  go_ret
  exact ⟨rfl, (Gr.refl _).al _⟩
set_option maxRecDepth 100000 in
set_option maxHeartbeats 4000000 in
theorem wturn (g : Nat) (S : List Nat) (s : TS) (w : World) (h : WA w g S s) (hM : s.now < 18446744073709551615) : Calls Try.prog 13 #[.pointer (some ⟨g, 0, none⟩)] w (Turned g S (turnT s) (IsDue s) w) := by
  have tg := h.tg
  obtain ⟨L, V, m, rfl, li⟩ := h.ex
  have hli1 := li.casc tg.late
  have HLI := Lib.hid (And.intro li (And.intro hli1 tg))
  have hn0 := tg.now0
  have HW := Lib.hid ((m.stNow (s.now + 1)).gr ((Gr.refl _).al (.cells #[.pointer (some ⟨g, 0, none⟩)] 24)))
  have HB : Hid (Blk ((w.setCell ⟨g, 0, none⟩ (.int .u64 (s.now + 1))).alloc (.cells #[.pointer (some ⟨g, 0, none⟩)] 24)) w.heap.size 24 #[.pointer (some ⟨g, 0, none⟩)]) := Lib.hid (by have := Blk.new (w.setCell ⟨g, 0, none⟩ (.int .u64 (s.now + 1))) 24 #[.pointer (some ⟨g, 0, none⟩)]; simpa [World.setCell] using this)
  have G1 : Hid (Ch (wfp g V) w ((w.setCell ⟨g, 0, none⟩ (.int .u64 (s.now + 1))).alloc (.cells #[.pointer (some ⟨g, 0, none⟩)] 24))) := Lib.hid (((Ch.refl _ _).st (p := ⟨g, 0, none⟩) (.inl (mem_wfp.2 (.inl rfl))) _).al _)
  have HI := Lib.hid m.inn
  have hgl := m.hdr.lt
  obtain ⟨c0, _, cf⟩ := m.head
  obtain ⟨n, hn⟩ : ∃ n, s.now = n := ⟨_, rfl⟩
  have hd : (s.now == 18446744073709551615) = false := by simp; omega
  have CC := Lib.hid (fun w' (mm : WMem w' g ⟨s.now + 1, s.last, s.du, s.no⟩ L V) => wcasc g ⟨s.now + 1, s.last, s.du, s.no⟩ L V w' mm ⟨by show 0 ≤ s.now + 1; omega, by show s.now + 1 ≤ _; omega⟩ tg.du0 (fun j => li.len j) (fun j x hx => by
    obtain ⟨p, rfl, h1, _⟩ := li.mem j x hx; omega))
  rw [hn] at hd c0 HW HB G1 CC hM hn0
  have HN := Lib.hid hn
  clear hli1 li tg h m hn
  go_enter Try.func13, Try.ntmps13
  go_upto_region 4 with fail
  generalize (w.setCell ⟨g, 0, none⟩ (.int .u64 (n + 1))).alloc (.cells #[.pointer (some ⟨g, 0, none⟩)] 24) = W1 at *
  obtain ⟨C, hC⟩ : ∃ C, w.heap.size = C := ⟨_, rfl⟩
  rw [hC] at HB ⊢
  have HCe := Lib.hid hC
  clear hC c0 cf hgl
  have HCn : Hid (C ∉ wfp g V) := Lib.hid (fun hm => by have := HI.out C hm; have := HCe.out; omega)
  have b0 := HB.out.cell 0
  go_upto_region 5 with (go_at_call 37; refine (CC.out _ HW.out).mono ?_; rintro e w2 ⟨rfl, V2, m2, k2, f2⟩)
  have HB2 := Lib.hid (HB.out.ch k2 HCn.out)
  clear b0
  have b0 := HB2.out.cell 0
  obtain ⟨c0, _, cf⟩ := m2.head
  have hnn : 0 ≤ n + 1 := by omega
  have hnm : n + 1 ≤ 18446744073709551615 := by omega
  have h63 := and63 (n + 1) hnn hnm
  obtain ⟨x, hx⟩ := Int.eq_ofNat_of_zero_le (show 0 ≤ (n + 1) % 64 by omega)
  have hx2 : (x : Int) < 64 := by omega
  have hxj : x < 257 := by omega
  rw [hx] at h63
  have HX := Lib.hid hx
  have H2 := Lib.hid (And.intro m2 (And.intro k2 f2))
  clear hx m2 k2 f2
  go_quiet (fail)
  have HG3 : Hid (Gr w2 (w2.drewN nq)) := Lib.hid ((Gr.refl _).drewN _)
  have c0' := HG3.out.cell_some c0
  clear c0 b0 cf
  generalize w2.drewN nq = W3 at *
  have M3 := Lib.hid (H2.out.1.gr HG3.out)
  have HB3 := Lib.hid (HB2.out.gr HG3.out)
  have hc := M3.out.ls hxj
  have hfz := M3.out.hdr.frozen (130 + x)
  obtain ⟨na, ka, hva, _, _⟩ := (M3.out.sl x hxj).len
  rw [hva] at hc
  have hb3 := HB3.out.cell 0
  go_upto_region 8 with fail
  have hDs : ∀ j, cascL (n + 1) ⟨n + 1, s.last, s.du, s.no⟩ L j = cascL (n + 1) s L j := fun _ => rfl
  have M3' : WMem W3 g ⟨n + 1, s.last, s.du, s.no⟩ (cascL (n + 1) s L) V2 := M3.out
  rw [hDs x] at hva ⊢
  have HLI2 : Hid (LI (n + 1) s (cascL (n + 1) s L)) := Lib.hid (by have := HLI.out.2.1; rwa [HN.out] at this)
  clear hDs
  generalize cascL (n + 1) s L = LL at *
  have HVA := Lib.hid hva
  have M4 := M3'.setL hxj (w' := W3) (v' := .slice none 0 0) (l' := []) (Ch.refl _ _) (fun b hb => by simp [sb] at hb) (Sl.nil _ _ _)
  have kg : Ch [g] W3 (W3.setCell ⟨g, 130 + x, none⟩ (.slice none 0 0)) := (Ch.refl _ _).st (by simp) _
  have hs4 : Sl 3 .i64 (W3.setCell ⟨g, 130 + x, none⟩ (.slice none 0 0)) (.slice na (LL x).length ka) (LL x) := hva ▸ (M3'.sl x hxj).ch kg (fun b hb hm => by simp at hm; subst hm; exact M3'.notg hxj hb)
  have hCV2 : C ∉ wfp g V2 := fun hm => by
    rcases H2.out.2.2 C hm with h1 | h1
    · exact HCn.out h1
    · have := HB.out.lt; omega
  have hCg : C ≠ g := fun e => hCV2 (mem_wfp.2 (.inl e))
  have hb4 := HB3.out.far (p := ⟨g, 130 + x, none⟩) hCg (.slice none 0 0)
  have hclo : CloR (W3.setCell ⟨g, 130 + x, none⟩ (.slice none 0 0)) C g s := ⟨hb4.cell 0, fun p hp => M4.tm hp⟩
  have hdz : ∀ y ∈ LL x, 0 ≤ y ∧ y < 64 := fun y hy => by
    obtain ⟨p, rfl, h1, _⟩ := HLI2.out.mem x y hy; omega
  have CS := Lib.hid (wsort 39 #[.pointer (some ⟨C, 0, none⟩)] (noCmp s) (noCmp_swo s) (enters_of Try.func39 (by kernel_rfl) rfl) (LL x) (.slice na (LL x).length ka) _ hs4 hdz (by have := HLI2.out.len x; omega) (fun blk off hb => no_lays hclo (fun e => hCV2 (sb_wfp (g := g) hxj C (by rw [hva, hb, e]; simp))) (fun e => M3'.notg hxj (by rw [hva, hb, e]; simp))))
  have K4 : Ch (wfp g V) w (W3.setCell ⟨g, 130 + x, none⟩ (.slice none 0 0)) := (((G1.out.tr H2.out.2.1 (fun b hb => .inl hb)).more HG3.out).st (p := ⟨g, 130 + x, none⟩) (.inl (mem_wfp.2 (.inl rfl))) _)
  have hf4 : Foot w (wfp g V) (wfp g V2) := fun b hb => by
    rcases H2.out.2.2 b hb with h1 | h1
    · exact .inl h1
    · exact .inr (by have := G1.out.size; omega)
  have H4 := Lib.hid (And.intro M4 (And.intro hb4 (And.intro K4 hf4)))
  have HCg := Lib.hid hCg
  clear M3' M4 kg hs4 hCV2 hCg hb4 hclo hdz K4 hf4 hc hfz hva hb3 c0'
  generalize W3.setCell ⟨g, 130 + x, none⟩ (.slice none 0 0) = W4 at *
  go_upto_region 9 with (go_at_call 38; refine (CS.out).mono ?_; rintro e w5 ⟨rfl, zs, hperm, hsort, r5, k5⟩)
  have hsub : ∀ y ∈ wfp g (updT V2 x (.slice none 0 0)), y ∈ wfp g V2 ∧ y ∉ sb (V2 x) := fun y hy => by
    rcases mem_wfp.1 hy with rfl | ⟨i, hi, hy⟩
    · exact ⟨mem_wfp.2 (.inl rfl), M3.out.notg hxj⟩
    · by_cases e : i = x
      · subst e; rw [updT_same] at hy; simp [sb] at hy
      · rw [updT_ne _ _ e] at hy
        exact ⟨sb_wfp hi y hy, M3.out.dj i x hi hxj e y hy⟩
  have hsbv : sb (.slice na (LL x).length ka) = sb (V2 x) := by rw [HVA.out]
  have M5 := H4.out.1.ch k5 (fun b hb => by rw [hsbv]; exact (hsub b hb).2)
  have hdue : IsDue s zs := due_of_sort HLI.out.2.2 (fun y => by
    have := HLI2.out
    rw [show (x : Nat) = ((s.now + 1) % 64).toNat by rw [HN.out]; have := HX.out; omega]
    rw [← HN.out] at this
    exact this.due HLI.out.2.2 y) (HLI2.out.nodup x) hperm hsort
  have hzl := hdue.len
  have hC5 : C ∉ sb (V2 x) := fun hm => by
    rcases H2.out.2.2 C (sb_wfp hxj C hm) with h1 | h1
    · exact HCn.out h1
    · have := HB.out.lt; omega
  have HB5 := Lib.hid (H4.out.2.1.ch k5 (by rw [hsbv]; exact hC5))
  have K5 : Ch (wfp g V) w w5 := H4.out.2.2.1.tr k5 (fun b hb => by rw [hsbv] at hb; exact H4.out.2.2.2 b (sb_wfp hxj b hb))
  rw [← hperm.length_eq] at r5 ⊢
  have hsbv' : sb (.slice na zs.length ka) = sb (V2 x) := by rw [hperm.length_eq]; exact hsbv
  have H5 := Lib.hid (And.intro M5 (And.intro r5 (And.intro K5 (And.intro hsub (And.intro hsbv' hdue)))))
  clear M5 r5 K5 hsub hsbv hsbv' hdue hperm hsort k5 hC5
  go_wp2_with fail
  go_loopw [45] (fun i wr => ∃ k : Nat, k ≤ zs.length ∧ i = .int .i64 k ∧ WMem wr g (clrT ⟨n + 1, s.last, s.du, s.no⟩ (zs.take k)) (updT LL x []) (updT V2 x (.slice none 0 0)) ∧ Ch [g] w5 wr) (fun i _ => zs.length - (intOf i).toNat)
  case atStart => exact ⟨0, by omega, rfl, by rw [List.take_zero, clrT_nil]; exact H5.out.1, Ch.refl _ _⟩
  case round =>
    obtain ⟨k, hk, rfl, mk, chk⟩ := hrel
    by_cases hlt : k < zs.length
    · have hd' : decide (k < zs.length) = true := by simpa using hlt
      obtain ⟨bR, oR, cR, heR, _, _, hcR, _, _⟩ := H5.out.2.1.cells (by omega)
      cases heR
      have hbg : bR ≠ g := fun e => by
        have h1 : bR ∈ sb (V2 x) := by rw [← H5.out.2.2.2.2.1]; simp [sb]
        rw [e] at h1
        exact M3.out.notg hxj h1
      have hx2 := chk.cell (hcR k hlt) (by simpa using hbg)
      obtain ⟨p, hp, hp64, _, _⟩ := (H5.out.2.2.2.2.2.2 (zs.getD k 0)).1 (by simp [List.getD_eq_getElem?_getD, hlt])
      rw [hp] at hx2
      have HT := Lib.hid (show zs.take (k + 1) = zs.take k ++ [(p : Int)] by rw [take_snoc zs k hlt, hp])
      have b5 := (HB5.out.ch chk (by simpa using HCg.out)).cell 0
      obtain ⟨t1, t2⟩ := mk.tm hp64
      have ff := mk.hdr.frozen
      have HMK := Lib.hid (And.intro (mk.stTm hp64 0 0) chk)
      rw [clrT_step, ← HT.out] at HMK
      have i1 : (k : Int) < (zs.length : Int) := by omega
      have i2 : (p : Int) < 64 := by omega
      generalize (clrT ⟨n + 1, s.last, s.du, s.no⟩ (zs.take k)).du p = z1 at t1
      generalize (clrT ⟨n + 1, s.last, s.du, s.no⟩ (zs.take k)).no p = z2 at t2
      clear mk chk hcR hbg hp
      go_wp2_with fail
      go_roundw
      case rel => exact ⟨k + 1, by omega, by go_num, HMK.out.1, (HMK.out.2.st (p := ⟨g, _, none⟩) (by simp) _).st (p := ⟨g, _, none⟩) (by simp) _⟩
      case measure => simp [intOf]; omega
    · obtain rfl : k = zs.length := by omega
      have hd' : decide (zs.length < zs.length) = false := by simp
      have HMK := Lib.hid (And.intro mk chk)
      clear mk chk
      go_wp2_with fail
      go_ret
      have hm := HMK.out.1
      rw [List.take_of_length_le (Nat.le_refl _), ← HN.out, clrT_turn HLI.out.2.2 H5.out.2.2.2.2.2] at hm
      refine ⟨.slice na zs.length ka, zs, _, rfl, H5.out.2.2.2.2.2, H5.out.2.1.ch HMK.out.2 (fun b hb hmm => ?_), ⟨⟨_, _, hm, rfl, ?_⟩, HLI.out.2.2.turn (by rw [HN.out]; exact hM)⟩, ?_, fun b hb => ?_, fun b hb hmm => ?_, fun b hb => ?_⟩
      · simp at hmm; subst hmm
        rw [H5.out.2.2.2.2.1] at hb
        exact M3.out.notg hxj hb
      · have h1 := HLI2.out
        rw [← HN.out] at h1
        have h2 := h1.turn HLI.out.2.2
        rw [show ((s.now + 1) % 64).toNat = x by rw [HN.out]; have := HX.out; omega] at h2
        exact h2
      · exact H5.out.2.2.1.tr HMK.out.2 (fun b hb => by simp at hb; subst hb; exact .inl (mem_wfp.2 (.inl rfl)))
      · exact H4.out.2.2.2 b (H5.out.2.2.2.1 b hb).1
      · rw [H5.out.2.2.2.2.1] at hb
        exact (H5.out.2.2.2.1 b hmm).2 hb
      · rw [H5.out.2.2.2.2.1] at hb
        exact H4.out.2.2.2 b (sb_wfp hxj b hb)
end Go.Proofs.Ytbeoomjcipbjjaa
