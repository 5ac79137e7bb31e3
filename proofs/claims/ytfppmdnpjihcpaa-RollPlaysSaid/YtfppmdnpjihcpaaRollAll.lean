/- Contracts of the functions of chapter 20 (roll and its reference) that tell all ids and the room, and of Jump. -/
import Derived.Test.YtfppmdnpjihcpaaRollRef
namespace Go.Proofs.Ytfppmdnpjihcpaa
open Go.RowKit LinesP
set_option linter.unusedVariables false

def idC (gs : List (Nat × Int)) : List Value := gs.flatMap fun p => [.int .i64 p.1, .int .u32 p.2]
theorem idC_snoc (gs : List (Nat × Int)) (p : Nat × Int) : idC (gs ++ [p]) = idC gs ++ [.int .i64 p.1, .int .u32 p.2] := by simp [idC]
theorem idC_get : ∀ (gs : List (Nat × Int)) (k : Nat) (p : Nat × Int), gs[k]? = some p → (idC gs)[k * 2]? = some (.int .i64 p.1) ∧ (idC gs)[k * 2 + 1]? = some (.int .u32 p.2) := by
  intro gs
  induction gs with
  | nil => intro k p h; simp at h
  | cons q gs ih =>
    intro k p h
    cases k with
    | zero => simp at h; subst h; exact ⟨rfl, rfl⟩
    | succ k =>
      simp at h
      have := ih k p h
      rw [show (k + 1) * 2 = k * 2 + 2 by omega]
      exact ⟨this.1, this.2⟩
/-- The ids of the first k places. -/
def allIds (tk : Nat → Bool) (gn : Nat → Int) (k : Nat) : List (Nat × Int) := ((List.range k).filter tk).map fun i => (i, gn i)
/-- How many of the first k places can be taken. -/
def roomN (tk : Nat → Bool) (gn : Nat → Int) (k : Nat) : Nat := ((List.range k).filter (opn tk gn)).length
theorem allIds_yes {tk : Nat → Bool} {gn : Nat → Int} {k : Nat} (h : tk k = true) : allIds tk gn (k + 1) = allIds tk gn k ++ [(k, gn k)] := by simp [allIds, List.range_succ, h]
theorem allIds_no {tk : Nat → Bool} {gn : Nat → Int} {k : Nat} (h : tk k = false) : allIds tk gn (k + 1) = allIds tk gn k := by simp [allIds, List.range_succ, h]
theorem allIds_le (tk : Nat → Bool) (gn : Nat → Int) (k : Nat) : (allIds tk gn k).length ≤ k := by
  simp only [allIds, List.length_map]
  exact Nat.le_trans (List.length_filter_le _ _) (by simp)
theorem roomN_yes {tk : Nat → Bool} {gn : Nat → Int} {k : Nat} (h : opn tk gn k = true) : roomN tk gn (k + 1) = roomN tk gn k + 1 := by simp [roomN, List.range_succ, h]
theorem roomN_no {tk : Nat → Bool} {gn : Nat → Int} {k : Nat} (h : opn tk gn k = false) : roomN tk gn (k + 1) = roomN tk gn k := by simp [roomN, List.range_succ, h]
theorem roomN_le (tk : Nat → Bool) (gn : Nat → Int) (k : Nat) : roomN tk gn k ≤ k := by
  simp only [roomN]
  exact Nat.le_trans (List.length_filter_le _ _) (by simp)
theorem elI : Elem Try.prog 25 30 (.agg #[.int .i64 0, .int .u32 0]) 2 16 := ⟨Try.underlying25, by kernel_rfl, rfl, by decide⟩

section
variable (g h m : Nat) (tk : Nat → Bool) (gn : Nat → Int) (w : World) (l : RollAt w g h m tk gn)
include l
theorem rroom_any : Calls Try.prog 52 #[.pointer (some ⟨g, 0, none⟩)] w fun e w' => e = .returned (.int .i64 (roomN tk gn m)) ∧ Gr w w' := by
  have hle := l.le
  obtain ⟨c0, f0⟩ := l.hdr.c1
  have HL := Lib.hid l
  clear l
  go_enter Try.func52, Try.ntmps52
  go_wp2_with fail
  go_loopw [3, 13] (fun r v wr => ∃ k : Nat, k ≤ m ∧ r = .int .i64 (roomN tk gn k) ∧ v = .int .i64 k ∧ Gr w wr) (fun _ v _ => m - (intOf v).toNat)
  case atStart => exact ⟨0, by omega, rfl, rfl, Gr.refl w⟩
  case round =>
    obtain ⟨k, hk, rfl, rfl, gr⟩ := hrel
    have hrk := roomN_le tk gn k
    by_cases hlt : k < m
    · have hd : decide ((k : Int) < (m : Int)) = true := by simpa using hlt
      obtain ⟨d1, d2, df⟩ := (HL.out.gr gr).cells hlt
      have C := Lib.hid (fun w => open_any (tk k) (gn k) w)
      cases ho : opn tk gn k
      · have HR := Lib.hid (roomN_no ho)
        rw [show (!tk k && decide (gn k < 4294967295)) = false from ho] at C
        generalize tk k = t at *
        generalize gn k = q at *
        generalize roomN tk gn k = r at *
        clear ho
        go_wp2_with (go_at_call 62; refine (C.out _).mono ?_; rintro e w2 ⟨rfl, g2⟩)
        go_roundw
        case rel => exact ⟨k + 1, by omega, by rw [HR.out], by go_num, (gr.al _).tr g2⟩
        case measure => simp [intOf]; omega
      · have HR := Lib.hid (roomN_yes ho)
        rw [show (!tk k && decide (gn k < 4294967295)) = true from ho] at C
        generalize tk k = t at *
        generalize gn k = q at *
        generalize roomN tk gn k = r at *
        clear ho
        go_wp2_with (go_at_call 62; refine (C.out _).mono ?_; rintro e w2 ⟨rfl, g2⟩)
        go_roundw
        case rel => exact ⟨k + 1, by omega, by rw [HR.out]; go_num, by go_num, (gr.al _).tr g2⟩
        case measure => simp [intOf]; omega
    · obtain rfl : m = k := by omega
      have hd : decide ((m : Int) < (m : Int)) = false := by simp
      go_wp2
      go_ret
      exact ⟨rfl, gr⟩
theorem rjump_no (x q : Int) (hx : ¬ (0 ≤ x ∧ x < m) ∨ ∃ i : Nat, x = i ∧ i < m ∧ (tk i = true ∨ q < gn i)) : Calls Try.prog 44 #[.pointer (some ⟨g, 0, none⟩), .int .i64 x, .int .u32 q] w fun e w' => e = .returned (.bool false) ∧ w = w' := by
  obtain ⟨c0, f0⟩ := l.hdr.c1
  by_cases h0 : x < 0
  · go_enter Try.func44, Try.ntmps44
    go_wp2
    go_ret
    exact ⟨rfl, rfl⟩
  · have hd : decide (x < 0) = false := by simpa using h0
    rcases hx with hx | ⟨i, rfl, hi, hx⟩
    · have hm : (m : Int) ≤ x := by omega
      go_enter Try.func44, Try.ntmps44
      go_wp2
      go_ret
      exact ⟨rfl, rfl⟩
    · have hm : decide ((m : Int) ≤ (i : Int)) = false := by simp; omega
      obtain ⟨c1, c2, cf⟩ := l.cells hi
      have hle := l.le
      cases ht : tk i
      · have hq : q < gn i := by rw [ht] at hx; simpa using hx
        rw [ht] at c1
        go_enter Try.func44, Try.ntmps44
        go_wp2
        go_ret
        exact ⟨rfl, rfl⟩
      · rw [ht] at c1
        go_enter Try.func44, Try.ntmps44
        go_wp2
        go_ret
        exact ⟨rfl, rfl⟩
theorem rjump_yes (i : Nat) (q : Int) (hi : i < m) (ht : tk i = false) (hq : gn i ≤ q) (hq2 : q ≤ 4294967295) : Calls Try.prog 44 #[.pointer (some ⟨g, 0, none⟩), .int .i64 i, .int .u32 q] w fun e w' => e = .returned (.bool true) ∧ RollAt w' g h m tk (upd gn i q) ∧ Ch [h] w w' := by
  obtain ⟨c0, f0⟩ := l.hdr.c1
  have hm : decide ((m : Int) ≤ (i : Int)) = false := by simp; omega
  obtain ⟨c1, c2, cf⟩ := l.cells hi
  have hle := l.le
  have hdq : decide (q < gn i) = false := by simp; omega
  rw [ht] at c1
  go_enter Try.func44, Try.ntmps44
  go_wp2
  go_ret
  exact ⟨rfl, l.st_g i q (by have := l.bd i; omega), (Ch.refl _ _).st (by simp) _⟩
theorem rall_any : Calls Try.prog 50 #[.pointer (some ⟨g, 0, none⟩)] w fun e w' => OwnRes 30 2 (allIds tk gn m).length (idC (allIds tk gn m)) w e w' := by
  have hle := l.le
  obtain ⟨c0, f0⟩ := l.hdr.c1
  have HL := Lib.hid l
  clear l
  go_enter Try.func50, Try.ntmps50
  go_wp2_with fail
  go_loopw [3, 17] (fun s v wr => ∃ k : Nat, k ≤ m ∧ v = .int .i64 k ∧ wr.ownsRow w.heap.size 30 2 s (allIds tk gn k).length (idC (allIds tk gn k)) ∧ Gr w wr) (fun _ v _ => m - (intOf v).toNat)
  case atStart => exact ⟨0, by omega, rfl, World.ownsRow_nil _ _ _ _, Gr.refl w⟩
  case round =>
    obtain ⟨k, hk, rfl, own, gr⟩ := hrel
    have hak := allIds_le tk gn k
    by_cases hlt : k < m
    · have hd : decide ((k : Int) < (m : Int)) = true := by simpa using hlt
      cases ht : tk k
      · have C := Lib.hid (rat_no _ k wr (.inr ⟨g, h, m, tk, gn, rfl, HL.out.gr gr, .inr ⟨k, rfl, hlt, ht⟩⟩))
        unfold idV at C
        have HN := Lib.hid (allIds_no (gn := gn) ht)
        go_wp2_with (go_at_call 46; refine (C.out).mono ?_; rintro e w2 ⟨rfl, g2⟩)
        go_roundw
        case rel =>
          refine ⟨k + 1, by omega, by go_num, ?_, (gr.tr g2).al _⟩
          rw [HN.out]
          exact (g2.al _).own own
        case measure => simp [intOf]; omega
      · have C := Lib.hid (rat_yes g h m tk gn k wr (HL.out.gr gr) hlt ht)
        unfold idV at C
        have HN := Lib.hid (allIds_yes (gn := gn) ht)
        generalize gn k = q at *
        generalize allIds tk gn k = gs at *
        go_upto_region 10 with (go_at_call 46; refine (C.out).mono ?_; rintro e w2 ⟨rfl, g2⟩)
        have HB := Lib.hid (gr.size_le)
        have own2 := (g2.al (.cells #[.int .i64 k, .int .u32 q] 30)).own own
        have x2 := Blk.new w2 30 #[.int .i64 k, .int .u32 q]
        have gr2 : Gr w (w2.alloc (.cells #[.int .i64 k, .int .u32 q] 30)) := (gr.tr g2).al _
        generalize w2.alloc (.cells #[.int .i64 k, .int .u32 q] 30) = W at *
        generalize w2.heap.size = X at *
        obtain ⟨x0, x1, _⟩ := x2.c2
        have hsz := gr2.size_le
        go_wp2_with (at_builtin; refine wpList_app1 elI (.tmp 27) (.tmp 29) w.heap.size _ _ _ _ _ _ rfl rfl rfl rfl own2 rfl rfl ?_ ?_ ?_ ?_)
        · omega
        · omega
        · omega
        intro v5 w5 own5 gr5
        rw [show idC gs ++ #[Value.int IntKind.i64 k, Value.int IntKind.u32 q].toList = idC (gs ++ [(k, q)]) by rw [idC_snoc]] at own5
        have g5 : Gr w w5 := gr2.grown gr5 (fun q hq => by have := (own2.lt q hq).1; omega)
        clear own2 own x2 x0 x1 gr5
        go_wp2_with fail
        go_roundw
        case rel =>
          refine ⟨k + 1, by omega, by go_num, ?_, g5⟩
          rw [HN.out]
          simpa using own5
        case measure => simp [intOf]; omega
    · obtain rfl : m = k := by omega
      have hd : decide ((m : Int) < (m : Int)) = false := by simp
      go_wp2
      go_ret
      exact ⟨_, rfl, own, gr⟩
end
section
variable (g a b m : Nat) (tk : Nat → Bool) (gn : Nat → Int) (w : World) (l : DocAt w g a b m tk gn)
include l
theorem droom_any : Calls Try.prog 53 #[.pointer (some ⟨g, 0, none⟩)] w fun e w' => e = .returned (.int .i64 (roomN tk gn m)) ∧ Gr w w' := by
  have hle := l.le
  obtain ⟨c0, c1, cf⟩ := l.hdr.c2
  have HL := Lib.hid l
  clear l
  go_enter Try.func53, Try.ntmps53
  go_wp2_with fail
  go_loopw [3, 4] (fun r v wr => ∃ k : Nat, k ≤ m ∧ r = .int .i64 (roomN tk gn k) ∧ v = .int .i64 k ∧ wr = w) (fun _ v _ => m - (intOf v).toNat)
  case atStart => exact ⟨0, by omega, rfl, rfl, rfl⟩
  case round =>
    obtain ⟨k, hk, rfl, rfl, rfl⟩ := hrel
    have hrk := roomN_le tk gn k
    by_cases hlt : k < m
    · have hd : decide ((k : Int) < (m : Int)) = true := by simpa using hlt
      have C := Lib.hid (dopen_any g a b m tk gn _ HL.out k hlt)
      cases ho : opn tk gn k
      · have HR := Lib.hid (roomN_no ho)
        rw [ho] at C
        generalize roomN tk gn k = r at *
        clear ho
        go_wp2_with (go_at_call 73; refine (C.out).mono ?_; rintro e w2 ⟨rfl, rfl⟩)
        go_roundw
        case rel => exact ⟨k + 1, by omega, by rw [HR.out], by go_num, by first | rfl | trivial⟩
        case measure => simp [intOf]; omega
      · have HR := Lib.hid (roomN_yes ho)
        rw [ho] at C
        generalize roomN tk gn k = r at *
        clear ho
        go_wp2_with (go_at_call 73; refine (C.out).mono ?_; rintro e w2 ⟨rfl, rfl⟩)
        go_roundw
        case rel => exact ⟨k + 1, by omega, by rw [HR.out]; go_num, by go_num, by first | rfl | trivial⟩
        case measure => simp [intOf]; omega
    · obtain rfl : m = k := by omega
      have hd : decide ((m : Int) < (m : Int)) = false := by simp
      go_wp2
      go_ret
      exact ⟨rfl, Gr.refl _⟩
theorem dall_any : Calls Try.prog 51 #[.pointer (some ⟨g, 0, none⟩)] w fun e w' => OwnRes 30 2 (allIds tk gn m).length (idC (allIds tk gn m)) w e w' := by
  have hle := l.le
  have HL := Lib.hid l
  clear l
  go_enter Try.func51, Try.ntmps51
  go_wp2_with fail
  go_loopw [3, 4] (fun s v wr => ∃ k : Nat, k ≤ m ∧ v = .int .i64 k ∧ wr.ownsRow w.heap.size 30 2 s (allIds tk gn k).length (idC (allIds tk gn k)) ∧ Gr w wr) (fun _ v _ => m - (intOf v).toNat)
  case atStart => exact ⟨0, by omega, rfl, World.ownsRow_nil _ _ _ _, Gr.refl w⟩
  case round =>
    obtain ⟨k, hk, rfl, own, gr⟩ := hrel
    have hak := allIds_le tk gn k
    obtain ⟨c0, c1, cf⟩ := (HL.out.gr gr).hdr.c2
    by_cases hlt : k < m
    · have hd : decide ((k : Int) < (m : Int)) = true := by simpa using hlt
      obtain ⟨d0, d1, _, _⟩ := (HL.out.gr gr).cells hlt
      cases ht : tk k
      · have HN := Lib.hid (allIds_no (gn := gn) ht)
        rw [ht] at d0
        go_wp2_with fail
        go_roundw
        case rel =>
          refine ⟨k + 1, by omega, by go_num, ?_, gr⟩
          rw [HN.out]
          exact own
        case measure => simp [intOf]; omega
      · have HN := Lib.hid (allIds_yes (gn := gn) ht)
        rw [ht] at d0
        generalize gn k = q at *
        generalize allIds tk gn k = gs at *
        have hsz := gr.size_le
        go_wp2_with (at_builtin; refine wpList_app1 elI (.tmp 21) (.tmp 31) w.heap.size _ _ _ _ _ _ rfl rfl rfl rfl own rfl rfl ?_ ?_ ?_ ?_)
        · omega
        · omega
        · omega
        intro v5 w5 own5 gr5
        rw [show idC gs ++ #[Value.int IntKind.i64 k, Value.int IntKind.u32 q].toList = idC (gs ++ [(k, q)]) by rw [idC_snoc]] at own5
        have g5 : Gr w w5 := gr.grown gr5 (fun q hq => by have := (own.lt q hq).1; omega)
        clear own c0 c1 cf d0 d1 gr5
        go_wp2_with fail
        go_roundw
        case rel =>
          refine ⟨k + 1, by omega, by go_num, ?_, g5⟩
          rw [HN.out]
          simpa using own5
        case measure => simp [intOf]; omega
    · obtain rfl : m = k := by omega
      have hd : decide ((m : Int) < (m : Int)) = false := by simp
      go_wp2
      go_ret
      exact ⟨_, rfl, own, gr⟩
end
theorem dsame_any (gs : List (Nat × Int)) (v v' : Value) (B B' : Nat) (w : World) (o : w.ownsRow B 30 2 v gs.length (idC gs)) (o' : w.ownsRow B' 30 2 v' gs.length (idC gs)) :
    Calls Try.prog 49 #[v, v'] w fun e w' => e = .returned (.bool true) ∧ Gr w w' := by
  have hv : ∃ a c, v = .slice a gs.length c := by
    rcases own_cells o with ⟨h1, h2⟩ | ⟨bg, cg, h1, _⟩
    · exact ⟨none, 0, by rw [h1, h2]⟩
    · exact ⟨_, cg, h1⟩
  have hv' : ∃ a c, v' = .slice a gs.length c := by
    rcases own_cells o' with ⟨h1, h2⟩ | ⟨bg, cg, h1, _⟩
    · exact ⟨none, 0, by rw [h1, h2]⟩
    · exact ⟨_, cg, h1⟩
  obtain ⟨a, c, rfl⟩ := hv
  obtain ⟨a', c', rfl⟩ := hv'
  go_enter Try.func49, Try.ntmps49
  go_wp2_with fail
  go_loopw [5] (fun v wr => ∃ k : Nat, k ≤ gs.length ∧ v = .int .i64 k ∧ Gr w wr) (fun v _ => gs.length - (intOf v).toNat)
  case atStart => exact ⟨0, by omega, rfl, Gr.refl w⟩
  case round =>
    obtain ⟨k, hk, rfl, gr⟩ := hrel
    by_cases hlt : k < gs.length
    · have hd : decide ((k : Int) < (gs.length : Int)) = true := by simpa using hlt
      obtain ⟨bg, cg, e1, _, _, _, hcm, hcg, _⟩ := (own_cells (gr.own o)).resolve_left (by rintro ⟨_, h⟩; omega)
      obtain ⟨bd, cd, e2, _, _, _, hdm, hcd, _⟩ := (own_cells (gr.own o')).resolve_left (by rintro ⟨_, h⟩; omega)
      cases e1
      cases e2
      obtain ⟨⟨ps, pq⟩, hp⟩ : ∃ p, gs[k]? = some p := ⟨_, List.getElem?_eq_getElem hlt⟩
      have i0 := hcg _ _ (idC_get gs k _ hp).1
      have i1 := hcg _ _ (idC_get gs k _ hp).2
      have j0 := hcd _ _ (idC_get gs k _ hp).1
      have j1 := hcd _ _ (idC_get gs k _ hp).2
      simp only at i0 i1 j0 j1
      clear hcg hcd o o'
      go_upto_region 6 with fail
      go_quiet (fail)
      go_wp2_with fail
      go_roundw
      case rel => exact ⟨k + 1, by omega, by go_num, gr.drewN _⟩
      case measure => simp [intOf]; omega
    · obtain rfl : k = gs.length := by omega
      have hd : decide ((gs.length : Int) < (gs.length : Int)) = false := by simp
      go_wp2
      go_ret
      exact ⟨rfl, gr⟩
end Go.Proofs.Ytfppmdnpjihcpaa
