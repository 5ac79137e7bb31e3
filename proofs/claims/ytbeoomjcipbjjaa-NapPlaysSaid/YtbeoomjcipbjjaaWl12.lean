/- The contracts of a wheel's All and Next, for every input. -/
import Derived.Test.YtbeoomjcipbjjaaWl11
namespace Go.Proofs.Ytbeoomjcipbjjaa
open Go.RowKit Go.Shelf Go.Sort Go.Lib
set_option linter.unusedVariables false

def allCmp (s : TS) (a b : Fin 64) : Int := orI (cmpI (s.du a.val) (s.du b.val)) (cmpI (s.no a.val) (s.no b.val))
theorem allCmp_iff (s : TS) (a b : Fin 64) : ltOf (allCmp s) a b = true ↔ aheadT s a.val b.val := by
  unfold ltOf allCmp orI cmpI aheadT
  by_cases h1 : s.du a.val < s.du b.val
  · simp [h1]
  · by_cases h2 : s.du b.val < s.du a.val
    · simp [h1, h2]; omega
    · have h3 : s.du a.val = s.du b.val := by omega
      by_cases h4 : s.no a.val < s.no b.val
      · simp [h3, h4]
      · by_cases h5 : s.no b.val < s.no a.val <;> simp [h3, h4, h5]
theorem allCmp_no (s : TS) (a b : Fin 64) : ltOf (allCmp s) a b = false ↔ ¬ aheadT s a.val b.val := by rw [← allCmp_iff]; simp
theorem allCmp_swo (s : TS) : SWO (ltOf (allCmp s)) where
  irrefl x := by rw [allCmp_no]; unfold aheadT; omega
  trans x y z h1 h2 := by rw [allCmp_iff] at *; unfold aheadT at *; omega
  ntrans x y z h1 h2 := by rw [allCmp_no] at *; unfold aheadT at *; omega
theorem all_lays {W : World} {C g : Nat} {s : TS} (h : CloR W C g s) {blk off n : Nat} (hC : C ≠ blk) (hg : g ≠ blk) : CmpLays1 Try.prog 41 #[.pointer (some ⟨C, 0, none⟩)] encP (allCmp s) blk off n W := by
  intro m os dk _ x y
  have k : Ch [blk] W (sortWorld encP W blk off m dk os) := ((((Gr.refl W).ahead m).ch [blk]).putRow (by simp) off dk).more ((Gr.refl _).grow os)
  exact all1 C g s x.val y.val _ (h.ch k hC hg) x.isLt y.isLt
/-- The places below k that have timers. -/
def hasL (s : TS) : Nat → List Int
  | 0 => []
  | k + 1 => if s.no k ≠ 0 then hasL s k ++ [(k : Int)] else hasL s k
theorem hasL_mem (s : TS) : ∀ k, k ≤ 64 → ∀ x : Int, x ∈ hasL s k ↔ ∃ p : Nat, x = p ∧ p < k ∧ s.no p ≠ 0
  | 0, _, x => by simp [hasL]
  | k + 1, hk, x => by
    have ih := hasL_mem s k (by omega) x
    unfold hasL
    by_cases h : s.no k ≠ 0
    · rw [if_pos h, List.mem_append, ih]
      constructor
      · rintro (⟨p, h1, h2, h3⟩ | h1)
        · exact ⟨p, h1, by omega, h3⟩
        · exact ⟨k, by simpa using h1, by omega, h⟩
      · rintro ⟨p, h1, h2, h3⟩
        by_cases e : p = k
        · subst e; exact .inr (by simpa using h1)
        · exact .inl ⟨p, h1, by omega, h3⟩
    · rw [if_neg h, ih]
      constructor
      · rintro ⟨p, h1, h2, h3⟩; exact ⟨p, h1, by omega, h3⟩
      · rintro ⟨p, h1, h2, h3⟩
        have : p ≠ k := fun e => h (e ▸ h3)
        exact ⟨p, h1, by omega, h3⟩
theorem hasL_nodup (s : TS) : ∀ k, k ≤ 64 → (hasL s k).Nodup
  | 0, _ => by simp [hasL]
  | k + 1, hk => by
    unfold hasL
    split
    · rw [List.nodup_append]
      refine ⟨hasL_nodup s k (by omega), by simp, fun x hx y hy e => ?_⟩
      simp at hy
      subst hy e
      obtain ⟨p, h1, h2, _⟩ := (hasL_mem s k (by omega) _).1 hx
      omega
    · exact hasL_nodup s k (by omega)
theorem hasL_len (s : TS) (k : Nat) (hk : k ≤ 64) : (hasL s k).length ≤ 64 := nodup_le 64 _ (hasL_nodup s k hk) (fun x hx => by
  obtain ⟨p, rfl, h1, _⟩ := (hasL_mem s k hk x).1 hx; omega)
theorem all_of_sort {s : TS} (t : TG s) {zs : List Int} (hp : zs.Perm (hasL s 64)) (hs : zs.Pairwise (fun x y => ltOf (allCmp s) (toP y) (toP x) = false)) : IsAll s zs := by
  have hm : ∀ x, x ∈ zs ↔ x ∈ hasL s 64 := fun x => hp.mem_iff
  have hD := fun x => hasL_mem s 64 (Nat.le_refl _) x
  have hz : zs.Nodup := hp.nodup_iff.2 (hasL_nodup s 64 (Nat.le_refl _))
  refine ⟨?_, fun x => (hm x).trans (hD x)⟩
  have hb : zs.Pairwise (fun x y => x ≠ y ∧ ltOf (allCmp s) (toP y) (toP x) = false) := hz.and hs
  refine hb.imp_of_mem fun {x y} hx hy hxy => ?_
  obtain ⟨p, rfl, p1, p2⟩ := (hD x).1 ((hm x).1 hx)
  obtain ⟨q, rfl, q1, q2⟩ := (hD y).1 ((hm y).1 hy)
  have h1 := hxy.2
  rw [allCmp_no, show (toP (q : Int)).val = q by unfold toP; show ((q : Int).toNat % 64) = q; rw [Int.toNat_natCast]; omega, show (toP (p : Int)).val = p by unfold toP; show ((p : Int).toNat % 64) = p; rw [Int.toNat_natCast]; omega] at h1
  have h3 : s.no p ≠ s.no q := fun e => hxy.1 (by rw [t.one p q e p2])
  rw [Int.toNat_natCast, Int.toNat_natCast]
  unfold aheadT at *
  omega
set_option maxHeartbeats 2000000 in
theorem wall_nil (w : World) : Calls Try.prog 14 #[.pointer none] w fun e w' => e = .returned (.slice none 0 0) ∧ Gr w w' := by
  have HN := Lib.hid (fun p w => whas_nil p w)
  have HS := Lib.hid (fun fv w => sort_none none 0 fv w)
  have HB := Lib.hid (Blk.new w 24 #[.pointer none])
  have hg := (Gr.refl w).al (.cells #[.pointer none] 24)
  go_enter Try.func14, Try.ntmps14
  go_wp2_with fail
  generalize w.alloc (.cells #[.pointer none] 24) = W at *
  generalize w.heap.size = C at *
  go_loopw [3, 5] (fun v i wr => ∃ k : Nat, k ≤ 64 ∧ i = .int .i64 k ∧ v = .slice none 0 0 ∧ Gr W wr) (fun _ i _ => 64 - (intOf i).toNat)
  case atStart => exact ⟨0, by omega, rfl, rfl, Gr.refl _⟩
  case round =>
    obtain ⟨k, hk, rfl, rfl, gr⟩ := hrel
    have b0 := (HB.out.gr gr).cell 0
    by_cases hlt : k < 64
    · have hlt' : (k : Int) < 64 := by omega
      go_wp2_with (go_at_call 35; refine (HN.out _ _).mono ?_; rintro e w' ⟨rfl, rfl⟩)
      go_roundw
      case rel => exact ⟨k + 1, by omega, by go_num, rfl, gr⟩
      case measure => simp [intOf]; omega
    · obtain rfl : k = 64 := by omega
      go_wp2_with (go_at_call 38; refine (HS.out _ _).mono ?_; rintro e w' ⟨rfl, rfl⟩)
      go_ret
      exact ⟨rfl, hg.tr gr⟩
set_option maxHeartbeats 1000000 in
theorem wall (g : Nat) (S : List Nat) (s : TS) (w : World) (h : WA w g S s) : Calls Try.prog 14 #[.pointer (some ⟨g, 0, none⟩)] w fun e w' => ∃ v l, e = .returned v ∧ IsAll s l ∧ Sl 3 .i64 w' v l ∧ Gr w w' := by
  have tg := h.tg
  obtain ⟨L, V, m, rfl, li⟩ := h.ex
  have HT := Lib.hid tg
  have HH := Lib.hid (fun p w' m' => whas g s L V p w' m' (fun q => (tg.no0 q).1))
  have HB := Lib.hid (Blk.new w 24 #[.pointer (some ⟨g, 0, none⟩)])
  have M := Lib.hid (m.gr ((Gr.refl w).al (.cells #[.pointer (some ⟨g, 0, none⟩)] 24)))
  have hg := (Gr.refl w).al (.cells #[.pointer (some ⟨g, 0, none⟩)] 24)
  have hgl := m.hdr.lt
  clear m li h tg
  go_enter Try.func14, Try.ntmps14
  go_wp2_with fail
  have HG := Lib.hid hg
  clear hg
  have hsz : (w.alloc (.cells #[.pointer (some ⟨g, 0, none⟩)] 24)).heap.size = w.heap.size + 1 := by simp
  have HSZ := Lib.hid hsz
  clear hsz
  generalize w.alloc (.cells #[.pointer (some ⟨g, 0, none⟩)] 24) = W at *
  obtain ⟨C, hC⟩ : ∃ C, w.heap.size = C := ⟨_, rfl⟩
  rw [hC] at HB HSZ hgl ⊢
  have HC := Lib.hid hC
  clear hC
  go_loopw [3, 5] (fun v i wr => ∃ k : Nat, k ≤ 64 ∧ i = .int .i64 k ∧ Sl 3 .i64 wr v (hasL s k) ∧ (∀ b ∈ sb v, W.heap.size ≤ b) ∧ Gr W wr) (fun _ i _ => 64 - (intOf i).toNat)
  case atStart => exact ⟨0, by omega, rfl, Sl.nil _ _ _, by simp [sb], Gr.refl _⟩
  case round =>
    obtain ⟨k, hk, rfl, hsl, hsb, gr⟩ := hrel
    have hlen := hasL_len s k hk
    have hb0 := (HB.out.gr gr).cell 0
    obtain ⟨na, ka, rfl, _, _⟩ := hsl.len
    have HS := Lib.hid (And.intro hsl (And.intro hsb gr))
    by_cases hlt : k < 64
    · have hlt' : (k : Int) < 64 := by omega
      have hha : hasB s (k : Int) = decide (s.no k ≠ 0) := hasB_at s k hlt
      have HR := Lib.hid (show hasL s (k + 1) = if s.no k ≠ 0 then hasL s k ++ [(k : Int)] else hasL s k from rfl)
      have CH := Lib.hid (HH.out k wr (M.out.gr gr))
      rw [hha] at CH
      generalize hasL s k = zs at *
      clear hsl hsb hha
      by_cases hn : s.no k = 0
      · rw [show decide (s.no k ≠ 0) = false by simpa using hn] at CH
        have HR' := Lib.hid (show hasL s (k + 1) = zs by rw [HR.out, if_neg (by simpa using hn)])
        clear hn gr
        go_wp2_with (go_at_call 35; refine (CH.out).mono ?_; rintro e w' ⟨rfl, rfl⟩)
        go_roundw
        case rel => exact ⟨k + 1, by omega, by go_num, by rw [HR'.out]; exact HS.out.1, HS.out.2.1, HS.out.2.2⟩
        case measure => simp [intOf]; omega
      · rw [show decide (s.no k ≠ 0) = true by simpa using hn] at CH
        have HR' := Lib.hid (show hasL s (k + 1) = zs ++ [(k : Int)] by rw [HR.out, if_pos hn])
        clear hn gr
        go_wp2_with (first
          | (go_at_call 35; refine (CH.out).mono ?_; rintro e w' ⟨rfl, rfl⟩)
          | (at_builtin; refine wpList_sl1 el30 .i64 (.tmp 11) (.tmp 13) (.slice na zs.length ka) zs (k : Int) _ _ rfl rfl rfl rfl HS.out.1 (by omega) (by omega) ?_; intro v2 w2 r2 k2 f2))
        go_roundw
        case rel => exact ⟨k + 1, by omega, by go_num, by rw [HR'.out]; exact r2, fun b hb => by rcases f2 b hb with h1 | h1; exact HS.out.2.1 b h1; (have := HS.out.2.2.size_le; omega), HS.out.2.2.chs k2 HS.out.2.1⟩
        case measure => simp [intOf]; omega
    · obtain rfl : k = 64 := by omega
      have hclo : CloR wr C g s := ⟨hb0, fun p hp => (M.out.gr gr).tm hp⟩
      have CS := Lib.hid (wsort 41 #[.pointer (some ⟨C, 0, none⟩)] (allCmp s) (allCmp_swo s) (enters_of Try.func41 (by kernel_rfl) rfl) (hasL s 64) (.slice na (hasL s 64).length ka) wr hsl (fun y hy => by
          obtain ⟨p, rfl, h1, _⟩ := (hasL_mem s 64 (Nat.le_refl _) y).1 hy; omega) (by omega) (fun blk off hb => all_lays hclo (fun e => by have := hsb blk (by rw [hb]; simp); have := HSZ.out; omega) (fun e => by have := hsb blk (by rw [hb]; simp); have := HSZ.out; omega)))
      clear hsl hsb hclo gr hb0
      go_wp2_with (go_at_call 38; refine (CS.out).mono ?_; rintro e w5 ⟨rfl, zs, hperm, hsort, r5, k5⟩)
      go_ret
      exact ⟨_, zs, rfl, all_of_sort HT.out hperm hsort, r5, HG.out.tr (HS.out.2.2.chs k5 HS.out.2.1)⟩
end Go.Proofs.Ytbeoomjcipbjjaa
