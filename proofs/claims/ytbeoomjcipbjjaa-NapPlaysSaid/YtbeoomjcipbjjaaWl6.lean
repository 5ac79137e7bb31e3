/- A wheel's second order (All), and the deletion of one place. -/
import Derived.Test.YtbeoomjcipbjjaaWl5
namespace Go.Proofs.Ytbeoomjcipbjjaa
open Go.RowKit Go.Shelf Go.Sort Go.Lib
set_option linter.unusedVariables false

def orI (x y : Int) : Int := if x ≠ 0 then x else y
theorem or_any (B : Nat) (x y : Int) (w : World) (h0 : w.cell? ⟨B, 0, none⟩ = some (.int .i64 x)) (h1 : w.cell? ⟨B, 1, none⟩ = some (.int .i64 y)) : Calls Try.prog 42 #[.slice (some ⟨B, 0, none⟩) 2 2] w fun e w' => e = .returned (.int .i64 (orI x y)) ∧ w = w' := by
  by_cases hx : x = 0
  · have HO := Lib.hid (show orI x y = y by unfold orI; rw [if_neg (by simpa using hx)])
    have ex : (x != 0) = false := by simpa using hx
    by_cases hy : y = 0
    · have ey : (y != 0) = false := by simpa using hy
      have HY := Lib.hid hy
      clear hx hy
      go_enter Try.func42, Try.ntmps42
      go_wp2
      refine wp_loop_rounds 3 ?_
      rw [rounds_succ]
      go_wp2
      rw [rounds_succ]
      go_wp2
      rw [rounds_succ]
      go_wp2
      go_ret
      exact ⟨ret_int (by rw [HO.out, HY.out]), rfl⟩
    · have ey : (y != 0) = true := by simpa using hy
      clear hx hy
      go_enter Try.func42, Try.ntmps42
      go_wp2
      refine wp_loop_rounds 2 ?_
      rw [rounds_succ]
      go_wp2
      rw [rounds_succ]
      go_wp2
      go_ret
      exact ⟨ret_int (by rw [HO.out]), rfl⟩
  · have HO := Lib.hid (show orI x y = x by unfold orI; rw [if_pos (by simpa using hx)])
    have ex : (x != 0) = true := by simpa using hx
    clear hx
    go_enter Try.func42, Try.ntmps42
    go_wp2
    refine wp_loop_rounds 1 ?_
    rw [rounds_succ]
    go_wp2
    go_ret
    exact ⟨ret_int (by rw [HO.out]), rfl⟩
theorem or_new (x y : Int) (w : World) : Calls Try.prog 42 #[.slice (some ⟨w.heap.size, 0, none⟩) 2 2] (w.alloc (.cells #[.int .i64 x, .int .i64 y] 3)) fun e w' => e = .returned (.int .i64 (orI x y)) ∧ w.alloc (.cells #[.int .i64 x, .int .i64 y] 3) = w' :=
  or_any w.heap.size x y _ ((Blk.new w 3 _).cell 0) ((Blk.new w 3 _).cell 1)
theorem or_new2 (x y : Int) (w : World) : Calls Try.prog 42 #[.slice (some ⟨w.heap.size, 0, none⟩) 2 2] ((w.alloc (.cells #[.int .i64 x, .int .i64 y] 3)).drew) fun e w' => e = .returned (.int .i64 (orI x y)) ∧ (w.alloc (.cells #[.int .i64 x, .int .i64 y] 3)).drew = w' :=
  or_any w.heap.size x y _ ((Blk.new w 3 _).cell 0) ((Blk.new w 3 _).cell 1)
/-- The cells that All's closure reads. -/
theorem al5 {W W' : World} {C g p q r u : Nat} {a b c d e : Value} (k : Gr W W') (h : W.cell? ⟨C, 0, none⟩ = some a ∧ W.cell? ⟨g, p, none⟩ = some b ∧ W.cell? ⟨g, q, none⟩ = some c ∧ W.cell? ⟨g, r, none⟩ = some d ∧ W.cell? ⟨g, u, none⟩ = some e) :
    W'.cell? ⟨C, 0, none⟩ = some a ∧ W'.cell? ⟨g, p, none⟩ = some b ∧ W'.cell? ⟨g, q, none⟩ = some c ∧ W'.cell? ⟨g, r, none⟩ = some d ∧ W'.cell? ⟨g, u, none⟩ = some e :=
  ⟨k.cell_some h.1, k.cell_some h.2.1, k.cell_some h.2.2.1, k.cell_some h.2.2.2.1, k.cell_some h.2.2.2.2⟩
theorem all1 (C g : Nat) (s : TS) (a b : Nat) (W : World) (h : CloR W C g s) (ha : a < 64) (hb : b < 64) :
    Calls Try.prog 41 #[.int .i64 a, .int .i64 b, .pointer (some ⟨C, 0, none⟩)] W fun e w' => e = .returned (.int .i64 (orI (cmpI (s.du a) (s.du b)) (cmpI (s.no a) (s.no b)))) ∧ ∃ q os, w' = grow (W.drewN q) os := by
  have i1 : (a : Int) < 64 := by omega
  have i2 : (b : Int) < 64 := by omega
  have HC := Lib.hid (fun x y w => compare_any x y w)
  have H := Lib.hid (And.intro h.box (And.intro (h.tm a ha).1 (And.intro (h.tm a ha).2 (And.intro (h.tm b hb).1 (h.tm b hb).2))))
  have HO := Lib.hid (fun x y w => or_new x y w)
  have HO2 := Lib.hid (fun x y w => or_new2 x y w)
  clear h
  generalize s.du a = x1 at *
  generalize s.no a = x2 at *
  generalize s.du b = y1 at *
  generalize s.no b = y2 at *
  obtain ⟨c0, c1, c2, c3, c4⟩ := H.out
  go_enter Try.func41, Try.ntmps41
  go_wp2_with fail
  go_region_held3 (fun w' => w'.cell? ⟨C, 0, none⟩ = some (.pointer (some ⟨g, 0, none⟩)) ∧ w'.cell? ⟨g, 2 + a * 2, none⟩ = some (.int .u64 x1) ∧ w'.cell? ⟨g, 2 + a * 2 + 1, none⟩ = some (.int .u64 x2) ∧ w'.cell? ⟨g, 2 + b * 2, none⟩ = some (.int .u64 y1) ∧ w'.cell? ⟨g, 2 + b * 2 + 1, none⟩ = some (.int .u64 y2))
    (first | exact H.out | exact al5 ((Gr.refl W).drew) H.out | exact al5 ((Gr.refl W).al _) H.out | exact al5 (((Gr.refl W).drew).al _) H.out)
    (first
    | (go_at_call 40; refine (HC.out _ _ _).mono ?_; rintro e w' ⟨rfl, rfl⟩)
    | (go_at_call 42; refine (HO2.out _ _ _).mono ?_; rintro e w' ⟨rfl, rfl⟩)
    | (go_at_call 42; refine (HO.out _ _ _).mono ?_; rintro e w' ⟨rfl, rfl⟩))
  all_goals go_wp2
  all_goals go_ret
  all_goals exact ⟨rfl, 1, #[.cells #[.int .i64 (cmpI x1 y1), .int .i64 (cmpI x2 y2)] 3], by rw [alloc_eq_grow]; rfl⟩

theorem clo54 (C : Nat) (x i : Int) (W : World) (h : W.cell? ⟨C, 0, none⟩ = some (.int .i64 i)) : Calls Try.prog 54 #[.int .i64 x, .pointer (some ⟨C, 0, none⟩)] W fun e w' => e = .returned (.bool (x == i)) ∧ ∃ q, w' = W.drewN q := by
  go_enter Try.func54, Try.ntmps54
  go_wp2
  go_ret
  exact ⟨rfl, 0, rfl⟩
theorem filter_vals (i : Nat) (hi : i < 64) : ∀ zs : List Int, (∀ x ∈ zs, 0 ≤ x ∧ x < 64) → vals ((zs.map toP).filter fun x => !decide (x.val = i)) = zs.filter fun y => !decide (y = (i : Int))
  | [], _ => rfl
  | z :: r, h => by
    have hz := h z (by simp)
    have ih := filter_vals i hi r (fun x hx => h x (by simp [hx]))
    have hv := toP_val hz
    rw [List.map_cons, List.filter_cons, List.filter_cons]
    by_cases e : z = i
    · rw [show (!decide ((toP z).val = i)) = false by simp; omega, show (!decide (z = (i : Int))) = false by simpa using e]
      exact ih
    · rw [show (!decide ((toP z).val = i)) = true by simp; omega, show (!decide (z = (i : Int))) = true by simpa using e]
      show ((toP z).val : Int) :: vals _ = _
      rw [hv, ih]
      rfl
/-- slices.DeleteFunc of one place. -/
theorem wdel (C i : Nat) (hi : i < 64) (zs : List Int) (v : Value) (w : World) (hv : Sl 3 .i64 w v zs) (hz : ∀ x ∈ zs, 0 ≤ x ∧ x < 64) (hl : zs.length ≤ 1000) (h0 : 0 < zs.length) (hC : w.cell? ⟨C, 0, none⟩ = some (.int .i64 i)) (hCv : C ∉ sb v) :
    Calls Try.prog 53 #[v, .func (.func 54) #[] #[.pointer (some ⟨C, 0, none⟩)]] w fun e w' => ∃ v', e = .returned v' ∧ Sl 3 .i64 w' v' (zs.filter fun y => !decide (y = (i : Int))) ∧ Ch (sb v) w w' ∧ sb v' = sb v := by
  have hv0 := hv
  obtain ⟨a, cp, rfl, h1, h2, h3⟩ := hv
  rcases h3 with ⟨rfl, rfl⟩ | ⟨b, off, cur, rfl, h5, h6, h7⟩
  · omega
  · obtain ⟨hH, hb⟩ := hv0.holds hz
    have hsz : (zs.map toP).toArray.size = zs.length := by simp
    have eg : ∀ args w, (callFunc 54 args).run Try.prog w = .ok (.enter 54 args) w := enters_of Try.func54 (by kernel_rfl) rfl
    have hCb : C ≠ b := fun e => hCv (by simp [sb, e])
    have give : ∀ (W : World) (x : Fin 64), W.cell? ⟨C, 0, none⟩ = some (.int .i64 i) → FnGives Try.prog 54 #[.pointer (some ⟨C, 0, none⟩)] #[encP x] (.bool (decide (x.val = i))) W := fun W x hW => by
      have := clo54 C (x.val : Int) i W hW
      rw [show ((x.val : Int) == (i : Int)) = decide (x.val = i) by rw [Bool.eq_iff_iff]; simp; omega] at this
      exact this
    have hp : PredAt Try.prog 54 #[.pointer (some ⟨C, 0, none⟩)] encP (fun x : Fin 64 => decide (x.val = i)) w := fun W x hW => give W x (Gr.cell_some hW hC)
    have hpo : PredOver Try.prog 54 #[.pointer (some ⟨C, 0, none⟩)] encP (fun x : Fin 64 => decide (x.val = i)) b off (zs.map toP).toArray.size w := fun n os dk x _ => give _ x (by
      have k : Ch [b] w (sortWorld encP w b off n dk os) := ((((Gr.refl w).ahead n).ch [b]).putRow (by simp) off dk).more ((Gr.refl _).grow os)
      exact k.cell hC (by simpa using hCb))
    have hcon := AnyE.slices_DeleteFunc layDel encP (fun _ => rfl) (fun x : Fin 64 => decide (x.val = i)) 54 #[.pointer (some ⟨C, 0, none⟩)] eg (0 : Fin 64) Try.zeroValue3 b off cp (zs.map toP).toArray w hp hpo hH (by rw [hsz]; omega) (by rw [hsz]; exact h1)
    rw [hsz] at hcon
    change Calls Try.prog 53 _ _ _ at hcon
    refine hcon.mono ?_
    rintro e w' ⟨he, q, hw⟩
    have hfl : ((zs.map toP).toArray.toList.filter fun x => !decide (x.val = i)).length ≤ zs.length := by
      refine Nat.le_trans (List.length_filter_le _ _) ?_
      simp
    have hfv : vals ((zs.map toP).toArray.toList.filter fun x => !decide (x.val = i)) = zs.filter fun y => !decide (y = (i : Int)) := filter_vals i hi zs hz
    have hfn : ((zs.map toP).toArray.toList.filter fun x => !decide (x.val = i)).length = (zs.filter fun y => !decide (y = (i : Int))).length := by rw [← hfv]; unfold vals; simp
    have hr := hv0.rewritten (w' := w') (n := ((zs.map toP).toArray.toList.filter fun x => !decide (x.val = i)).length) (zs' := zs.filter fun y => !decide (y = (i : Int))) (q := q) (os := #[]) (((zs.map toP).toArray.toList.filter fun x => !decide (x.val = i)) ++ List.replicate (zs.length - ((zs.map toP).toArray.toList.filter fun x => !decide (x.val = i)).length) (0 : Fin 64)).toArray
      (by rw [grow_empty]; exact hw) (by rw [List.size_toArray, List.length_append, List.length_replicate]; omega) (by rw [← hfv, List.take_left]) hfl
    refine ⟨_, he, ?_, hr.2, rfl⟩
    rw [hfn]
    exact hr.1
end Go.Proofs.Ytbeoomjcipbjjaa
