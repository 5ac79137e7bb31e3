/- The library's sort over places, by a wheel's two orders; the deletion of one place. -/
import Derived.Test.YtbeoomjcipbjjaaWl4
namespace Go.Proofs.Ytbeoomjcipbjjaa
open Go.RowKit Go.Shelf Go.Sort Go.Lib
set_option linter.unusedVariables false

theorem pdq_none (p : Option Addr) (cap : Nat) (lim : Int) (fv : Value) (w : World) : Calls Try.prog 59 #[.slice p 0 cap, .int .i64 0, .int .i64 0, .int .i64 lim, fv] w fun e w' => e = .returned (.tuple #[]) ∧ w = w' := by
  have hi := Lib.hid (fun W => insertion_none p cap fv W)
  go_enter Try.func59, Try.ntmps59
  go_wp2
  refine wp_loop_rounds 1 ?_
  rw [rounds_succ]
  go_wp2_with (go_at_call 66; refine (hi.out _).mono ?_; rintro e w' ⟨rfl, rfl⟩)
  (try simp only [Exit.inBlock, Exit.then]); refine bodyPost_ret (results_none rfl _ _ _) rfl ?_
  exact ⟨rfl, rfl⟩
theorem sort_none (p : Option Addr) (cap : Nat) (fv : Value) (w : World) : Calls Try.prog 38 #[.slice p 0 cap, fv] w fun e w' => e = .returned (.tuple #[]) ∧ w = w' := by
  have hp := Lib.hid (fun lim W => pdq_none p cap lim fv W)
  have hb := Lib.hid (fun W => bitsLen0 W)
  go_enter Try.func38, Try.ntmps38
  go_wp2_with (first | (go_at_call 60; refine (hb.out _).mono ?_; rintro e w' ⟨rfl, rfl⟩) | (go_at_call 59; refine (hp.out _ _).mono ?_; rintro e w' ⟨rfl, rfl⟩))
  go_end0
  exact ⟨rfl, rfl⟩
/-- slices.SortFunc over a slice of places, by a comparison that is a strict weak order. -/
theorem wsort (fn : Nat) (lb : Array Value) (cf : Fin 64 → Fin 64 → Int) (hO : SWO (ltOf cf)) (eg : ∀ args w, (callFunc fn args).run Try.prog w = .ok (.enter fn args) w) (zs : List Int) (v : Value) (w : World) (hv : Sl 3 .i64 w v zs) (hz : ∀ x ∈ zs, 0 ≤ x ∧ x < 64) (hl : zs.length ≤ 1000)
    (hcmp : ∀ blk off, sb v = [blk] → CmpLays1 Try.prog fn lb encP cf blk off zs.length w) :
    Calls Try.prog 38 #[v, .func (.func fn) #[] lb] w fun e w' => e = .returned (.tuple #[]) ∧ ∃ zs', zs'.Perm zs ∧ zs'.Pairwise (fun x y => ltOf cf (toP y) (toP x) = false) ∧ Sl 3 .i64 w' v zs' ∧ Ch (sb v) w w' := by
  have hv0 := hv
  obtain ⟨a, cp, rfl, h1, h2, h3⟩ := hv
  rcases h3 with ⟨rfl, rfl⟩ | ⟨b, off, cur, rfl, h5, h6, h7⟩
  · obtain rfl : zs = [] := List.eq_nil_of_length_eq_zero (by omega)
    exact (sort_none none 0 _ w).mono fun e w' ⟨he, hw⟩ => ⟨he, [], .refl _, by simp, hw ▸ hv0, hw ▸ Ch.refl _ _⟩
  · obtain ⟨hH, hb⟩ := hv0.holds hz
    have hsz : (zs.map toP).toArray.size = zs.length := by simp
    have hcon := Any.slices_SortFunc laySort encP (fun _ => rfl) cf hO fn lb b off cp (zs.map toP).toArray w eg (by rw [hsz]; exact hcmp b off rfl) hH hb (by rw [hsz]; omega)
    rw [hsz] at hcon
    change Calls Try.prog 38 _ _ _ at hcon
    refine hcon.mono ?_
    rintro e w' ⟨he, d', n, os, hp, hs, hw⟩
    rw [← hsz] at hp
    obtain ⟨hd, hperm⟩ := perm_in hp
    rw [hsz] at hd
    have hsd := sorted_in hs hd
    have hr := hv0.rewritten (n := zs.length) (zs' := vals d'.toList) d' hw hd (by rw [List.take_of_length_le (by simp; omega)]) (Nat.le_refl _)
    have hpv : (vals d'.toList).Perm zs := by
      have := hperm.map fun x : Fin 64 => (x.val : Int)
      rw [show (zs.map toP).toArray.toList = zs.map toP by simp, show (zs.map toP).map (fun x : Fin 64 => (x.val : Int)) = zs from vals_toP zs hz] at this
      exact this
    refine ⟨he, vals d'.toList, hpv, ?_, ?_, hr.2⟩
    · unfold vals
      rw [List.pairwise_map]
      refine hsd.imp fun {x y} hxy => ?_
      rw [show toP ((x.val : Nat) : Int) = x by apply Fin.ext; show ((x.val : Nat) : Int).toNat % 64 = x.val; rw [Int.toNat_natCast]; omega, show toP ((y.val : Nat) : Int) = y by apply Fin.ext; show ((y.val : Nat) : Int).toNat % 64 = y.val; rw [Int.toNat_natCast]; omega]
      exact hxy
    · have := hr.1
      rwa [hpv.length_eq] at this

/-- cmp.Compare of two uint64s. -/
def cmpI (x y : Int) : Int := if x < y then -1 else if y < x then 1 else 0
theorem isnan (x : Int) (w : World) : Calls Try.prog 61 #[.int .u64 x] w fun e w' => e = .returned (.bool false) ∧ w = w' := by
  go_enter Try.func61, Try.ntmps61
  go_wp2
  go_ret
  exact ⟨ret_bool (by simp), rfl⟩
theorem compare_any (x y : Int) (w : World) : Calls Try.prog 40 #[.int .u64 x, .int .u64 y] w fun e w' => e = .returned (.int .i64 (cmpI x y)) ∧ w = w' := by
  have hn := Lib.hid (fun x w => isnan x w)
  by_cases h1 : x < y
  · have HC := Lib.hid (show cmpI x y = -1 by unfold cmpI; rw [if_pos h1])
    have d1 : decide (x < y) = true := by simpa using h1
    clear h1
    go_enter Try.func40, Try.ntmps40
    go_wp2_with (go_at_call 61; refine (hn.out _ _).mono ?_; rintro e w' ⟨rfl, rfl⟩)
    go_ret
    exact ⟨ret_int (by rw [HC.out]), rfl⟩
  · have d1 : decide (x < y) = false := by simpa using h1
    by_cases h2 : y < x
    · have HC := Lib.hid (show cmpI x y = 1 by unfold cmpI; rw [if_neg h1, if_pos h2])
      have d2 : decide (y < x) = true := by simpa using h2
      clear h1 h2
      go_enter Try.func40, Try.ntmps40
      go_wp2_with (go_at_call 61; refine (hn.out _ _).mono ?_; rintro e w' ⟨rfl, rfl⟩)
      go_ret
      exact ⟨ret_int (by rw [HC.out]), rfl⟩
    · have HC := Lib.hid (show cmpI x y = 0 by unfold cmpI; rw [if_neg h1, if_neg h2])
      have d2 : decide (y < x) = false := by simpa using h2
      clear h1 h2
      go_enter Try.func40, Try.ntmps40
      go_wp2_with (go_at_call 61; refine (hn.out _ _).mono ?_; rintro e w' ⟨rfl, rfl⟩)
      go_ret
      exact ⟨ret_int (by rw [HC.out]), rfl⟩
/-- The wheel's variable, boxed, and the timers in a world: what the closures read. -/
structure CloR (W : World) (C g : Nat) (s : TS) : Prop where
  box : W.cell? ⟨C, 0, none⟩ = some (.pointer (some ⟨g, 0, none⟩))
  tm : ∀ p, p < 64 → W.cell? ⟨g, 2 + p * 2, none⟩ = some (.int .u64 (s.du p)) ∧ W.cell? ⟨g, 2 + p * 2 + 1, none⟩ = some (.int .u64 (s.no p))
theorem turn1 (C g : Nat) (s : TS) (a b : Nat) (W : World) (h : CloR W C g s) (ha : a < 64) (hb : b < 64) :
    Calls Try.prog 39 #[.int .i64 a, .int .i64 b, .pointer (some ⟨C, 0, none⟩)] W fun e w' => e = .returned (.int .i64 (cmpI (s.no a) (s.no b))) ∧ ∃ q, w' = W.drewN q := by
  have c0 := h.box
  have c1 := (h.tm a ha).2
  have c2 := (h.tm b hb).2
  have i1 : (a : Int) < 64 := by omega
  have i2 : (b : Int) < 64 := by omega
  have HC := Lib.hid (fun w => compare_any (s.no a) (s.no b) w)
  generalize cmpI (s.no a) (s.no b) = r at *
  generalize s.no a = x at *
  generalize s.no b = y at *
  clear h
  go_enter Try.func39, Try.ntmps39
  go_wp2_with fail
  go_quiet ((go_at_call 40; exact (HC.out _).mono fun _ _ ⟨h1, h2⟩ => ⟨h1, _, h2.symm⟩))
  go_wp2
  go_ret
  exact ⟨rfl, nq, rfl⟩
end Go.Proofs.Ytbeoomjcipbjjaa
