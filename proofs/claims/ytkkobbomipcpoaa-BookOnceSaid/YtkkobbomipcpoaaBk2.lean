/- Contracts of the methods of a book (chapter 29), but for Loads and Late, for every input. -/
import Derived.Test.YtkkobbomipcpoaaBk
namespace Go.Proofs.Ytkkobbomipcpoaa
open Go.RowKit TagP
set_option linter.unusedVariables false

theorem stB_placeF {f : Nat → Int} {slot : Int} (h : placeB slot = false) : stB f slot = false := by unfold stB; rw [h]; rfl
def homeI (s : BS) (slot : Int) : Int := if placeB slot then s.hm slot.toNat else 0
def queuedI (s : BS) (slot : Int) : Int := if stB s.f slot then s.lv slot.toNat else 8
def sinceI (s : BS) (slot : Int) : Int := if stB s.f slot then s.sc slot.toNat else 0
def movedB (s : BS) (slot : Int) : Bool := stB s.f slot && s.mv slot.toNat
def dropS (s : BS) (slot : Int) : BS := if stB s.f slot then { s with f := setF s.f slot.toNat 0 } else s
def homeS (s : BS) (slot cpu : Int) : BS := if placeB slot && cpuB s.c cpu then { s with hm := upd s.hm slot.toNat cpu } else s
def markS (s : BS) (slot : Int) : BS := if stB s.f slot then { s with mv := upd s.mv slot.toNat true } else s
section
variable (g h : Nat) (s : BS) (slot : Int) (w : World) (l : BookAt w g h s)
include l
theorem bword : Calls Try.prog 50 #[.pointer (some ⟨g, 0, none⟩), .int .i64 slot] w fun e w' => e = .returned (.int .u64 (nowI s.f slot)) ∧ w = w' := by
  obtain ⟨c0, c1⟩ := l.head
  have HT := Lib.hid l.tag
  by_cases h1 : placeB slot = true
  · have HP := Lib.hid h1
    clear h1 l
    go_enter Try.func50, Try.ntmps50
    go_wp2_with (first | (go_at_call 100; refine (bplace _ _ _).mono ?_; rintro e w' ⟨rfl, rfl⟩; rw [HP.out]) | (go_at_call 105; refine (now_any h s.last s.f slot _ HT.out).mono ?_; rintro e w' ⟨rfl, rfl⟩))
    go_ret
    exact ⟨rfl, rfl⟩
  · have HP := Lib.hid (show placeB slot = false by simpa using h1)
    have HN := Lib.hid (show nowI s.f slot = 0 by unfold nowI; rw [if_neg h1])
    clear h1 l
    go_enter Try.func50, Try.ntmps50
    go_wp2_with (go_at_call 100; refine (bplace _ _ _).mono ?_; rintro e w' ⟨rfl, rfl⟩; rw [HP.out])
    go_ret
    exact ⟨ret_int (by rw [HN.out]), rfl⟩
theorem bhome : Calls Try.prog 60 #[.pointer (some ⟨g, 0, none⟩), .int .i64 slot] w fun e w' => e = .returned (.int .i64 (homeI s slot)) ∧ w = w' := by
  by_cases h1 : placeB slot = true
  · have HP := Lib.hid h1
    obtain ⟨h3, h4⟩ := (place_iff slot).1 h1
    obtain ⟨i, rfl⟩ := Int.eq_ofNat_of_zero_le h3
    obtain ⟨c0, c1, c2, c3, cf⟩ := l.one (i := i) (by omega)
    have HN := Lib.hid (show homeI s i = s.hm i by unfold homeI; rw [if_pos h1]; rfl)
    clear h1 l c1 c2 c3
    generalize s.hm i = z at *
    go_enter Try.func60, Try.ntmps60
    go_wp2_with (go_at_call 100; refine (bplace _ _ _).mono ?_; rintro e w' ⟨rfl, rfl⟩; rw [HP.out])
    go_ret
    exact ⟨ret_int (by rw [HN.out]), rfl⟩
  · have HP := Lib.hid (show placeB slot = false by simpa using h1)
    have HN := Lib.hid (show homeI s slot = 0 by unfold homeI; rw [if_neg h1])
    clear h1 l
    go_enter Try.func60, Try.ntmps60
    go_wp2_with (go_at_call 100; refine (bplace _ _ _).mono ?_; rintro e w' ⟨rfl, rfl⟩; rw [HP.out])
    go_ret
    exact ⟨ret_int (by rw [HN.out]), rfl⟩

theorem bqueued : Calls Try.prog 62 #[.pointer (some ⟨g, 0, none⟩), .int .i64 slot] w fun e w' => e = .returned (.int .i64 (queuedI s slot)) ∧ w = w' := by
  by_cases h1 : stB s.f slot = true
  · obtain ⟨i, rfl, hi, _⟩ := stB_yes h1
    have HP := Lib.hid (fun w l => bstands g h s i w l)
    rw [h1] at HP
    obtain ⟨c0, c1, c2, c3, cf⟩ := l.one hi
    have HN := Lib.hid (show queuedI s i = s.lv i by unfold queuedI; rw [if_pos h1]; rfl)
    have HL := Lib.hid l
    clear h1 l
    generalize s.lv i = z at *
    go_enter Try.func62, Try.ntmps62
    go_wp2_with (go_at_call 98; refine (HP.out _ HL.out).mono ?_; rintro e w' ⟨rfl, rfl⟩)
    go_ret
    exact ⟨ret_int (by rw [HN.out]), rfl⟩
  · have HP := Lib.hid (bstands g h s slot w l)
    have HN := Lib.hid (show queuedI s slot = 8 by unfold queuedI; rw [if_neg h1])
    rw [show stB s.f slot = false by simpa using h1] at HP
    clear h1 l
    go_enter Try.func62, Try.ntmps62
    go_wp2_with (go_at_call 98; refine (HP.out).mono ?_; rintro e w' ⟨rfl, rfl⟩)
    go_ret
    exact ⟨ret_int (by rw [HN.out]), rfl⟩

theorem bsince : Calls Try.prog 63 #[.pointer (some ⟨g, 0, none⟩), .int .i64 slot] w fun e w' => e = .returned (.int .u64 (sinceI s slot)) ∧ w = w' := by
  by_cases h1 : stB s.f slot = true
  · obtain ⟨i, rfl, hi, _⟩ := stB_yes h1
    have HP := Lib.hid (fun w l => bstands g h s i w l)
    rw [h1] at HP
    obtain ⟨c0, c1, c2, c3, cf⟩ := l.one hi
    have HN := Lib.hid (show sinceI s i = s.sc i by unfold sinceI; rw [if_pos h1]; rfl)
    have HL := Lib.hid l
    clear h1 l
    generalize s.sc i = z at *
    go_enter Try.func63, Try.ntmps63
    go_wp2_with (go_at_call 98; refine (HP.out _ HL.out).mono ?_; rintro e w' ⟨rfl, rfl⟩)
    go_ret
    exact ⟨ret_int (by rw [HN.out]), rfl⟩
  · have HP := Lib.hid (bstands g h s slot w l)
    have HN := Lib.hid (show sinceI s slot = 0 by unfold sinceI; rw [if_neg h1])
    rw [show stB s.f slot = false by simpa using h1] at HP
    clear h1 l
    go_enter Try.func63, Try.ntmps63
    go_wp2_with (go_at_call 98; refine (HP.out).mono ?_; rintro e w' ⟨rfl, rfl⟩)
    go_ret
    exact ⟨ret_int (by rw [HN.out]), rfl⟩

theorem bmoved : Calls Try.prog 64 #[.pointer (some ⟨g, 0, none⟩), .int .i64 slot] w fun e w' => e = .returned (.bool (movedB s slot)) ∧ w = w' := by
  by_cases h1 : stB s.f slot = true
  · obtain ⟨i, rfl, hi, _⟩ := stB_yes h1
    have HP := Lib.hid (fun w l => bstands g h s i w l)
    rw [h1] at HP
    obtain ⟨c0, c1, c2, c3, cf⟩ := l.one hi
    have HN := Lib.hid (show movedB s i = s.mv i by unfold movedB; rw [h1]; rfl)
    have HL := Lib.hid l
    clear h1 l
    generalize s.mv i = z at *
    go_enter Try.func64, Try.ntmps64
    go_wp2_with (go_at_call 98; refine (HP.out _ HL.out).mono ?_; rintro e w' ⟨rfl, rfl⟩)
    go_ret
    exact ⟨ret_bool (by rw [HN.out]), rfl⟩
  · have HP := Lib.hid (bstands g h s slot w l)
    have HN := Lib.hid (show movedB s slot = false by unfold movedB; rw [show stB s.f slot = false by simpa using h1]; rfl)
    rw [show stB s.f slot = false by simpa using h1] at HP
    clear h1 l
    go_enter Try.func64, Try.ntmps64
    go_wp2_with (go_at_call 98; refine (HP.out).mono ?_; rintro e w' ⟨rfl, rfl⟩)
    go_ret
    exact ⟨ret_bool (by rw [HN.out]), rfl⟩
/-- What a writing method leaves: the answer b, the book as s', nothing else changed. -/
theorem bmark : Calls Try.prog 65 #[.pointer (some ⟨g, 0, none⟩), .int .i64 slot] w fun e w' => e = .returned (.bool (stB s.f slot)) ∧ BookAt w' g h (markS s slot) ∧ Ch [g, h] w w' := by
  by_cases h1 : stB s.f slot = true
  · obtain ⟨i, rfl, hi, _⟩ := stB_yes h1
    have HP := Lib.hid (fun w l => bstands g h s i w l)
    rw [h1] at HP ⊢
    obtain ⟨c0, c1, c2, c3, cf⟩ := l.one hi
    have HN := Lib.hid (show markS s i = { s with mv := upd s.mv i true } by unfold markS; rw [if_pos h1]; rfl)
    have HL := Lib.hid l
    clear h1 l
    generalize s.mv i = z at c3
    go_enter Try.func65, Try.ntmps65
    go_wp2_with (go_at_call 98; refine (HP.out _ HL.out).mono ?_; rintro e w' ⟨rfl, rfl⟩)
    go_ret
    rw [HN.out]
    exact ⟨rfl, HL.out.stM i true, (Ch.refl _ _).st (by simp) _⟩
  · have HP := Lib.hid (bstands g h s slot w l)
    have HN := Lib.hid (show markS s slot = s by unfold markS; rw [if_neg h1])
    rw [show stB s.f slot = false by simpa using h1] at HP ⊢
    have HL := Lib.hid l
    clear h1 l
    go_enter Try.func65, Try.ntmps65
    go_wp2_with (go_at_call 98; refine (HP.out).mono ?_; rintro e w' ⟨rfl, rfl⟩)
    go_ret
    rw [HN.out]
    exact ⟨rfl, HL.out, Ch.refl _ _⟩
theorem bdrop : Calls Try.prog 47 #[.pointer (some ⟨g, 0, none⟩), .int .i64 slot] w fun e w' => e = .returned (.bool (stB s.f slot)) ∧ BookAt w' g h (dropS s slot) ∧ Ch [g, h] w w' := by
  by_cases h1 : stB s.f slot = true
  · obtain ⟨i, rfl, hi, _⟩ := stB_yes h1
    have HP := Lib.hid (fun w l => bstands g h s i w l)
    rw [h1] at HP ⊢
    obtain ⟨c0, c1⟩ := l.head
    have HN := Lib.hid (show dropS s i = { s with f := setF s.f i 0 } by unfold dropS; rw [if_pos h1]; rfl)
    have HD := Lib.hid (drop_any h s.last s.f i w l.tag)
    have hdr : dropF s.f (i : Int) = setF s.f i 0 := by unfold dropF; rw [if_pos ((place_iff _).2 (by omega))]; rfl
    rw [hdr] at HD
    have HL := Lib.hid l
    clear h1 l hdr
    go_enter Try.func47, Try.ntmps47
    go_wp2_with (first | (go_at_call 98; refine (HP.out _ HL.out).mono ?_; rintro e w' ⟨rfl, rfl⟩) | (go_at_call 99; refine (HD.out).mono ?_; rintro e w1 ⟨rfl, hb1, k1⟩))
    go_ret
    rw [HN.out]
    exact ⟨rfl, HL.out.tg k1 hb1 HL.out.l0, k1.wide (by simp)⟩
  · have HP := Lib.hid (bstands g h s slot w l)
    have HN := Lib.hid (show dropS s slot = s by unfold dropS; rw [if_neg h1])
    rw [show stB s.f slot = false by simpa using h1] at HP ⊢
    have HL := Lib.hid l
    clear h1 l
    go_enter Try.func47, Try.ntmps47
    go_wp2_with (go_at_call 98; refine (HP.out).mono ?_; rintro e w' ⟨rfl, rfl⟩)
    go_ret
    rw [HN.out]
    exact ⟨rfl, HL.out, Ch.refl _ _⟩
theorem bsethome (cpu : Int) : Calls Try.prog 61 #[.pointer (some ⟨g, 0, none⟩), .int .i64 slot, .int .i64 cpu] w fun e w' => e = .returned (.bool (placeB slot && cpuB s.c cpu)) ∧ BookAt w' g h (homeS s slot cpu) ∧ Ch [g, h] w w' := by
  have HC := Lib.hid (bcpu g h s cpu w l)
  have HL := Lib.hid l
  by_cases h1 : placeB slot = true
  · have HP := Lib.hid h1
    by_cases h2 : cpuB s.c cpu = true
    · obtain ⟨h3, h4⟩ := (place_iff slot).1 h1
      obtain ⟨i, rfl⟩ := Int.eq_ofNat_of_zero_le h3
      have HN := Lib.hid (show homeS s i cpu = { s with hm := upd s.hm i cpu } by unfold homeS; rw [h1, h2]; rfl)
      rw [h1, h2]
      rw [h2] at HC
      obtain ⟨c0, c1, c2, c3, cf⟩ := l.one (i := i) (by omega)
      clear h1 h2 l c1 c2 c3
      generalize s.hm i = z at c0
      go_enter Try.func61, Try.ntmps61
      go_wp2_with (first | (go_at_call 100; refine (bplace _ _ _).mono ?_; rintro e w' ⟨rfl, rfl⟩; rw [HP.out]) | (go_at_call 101; refine (HC.out).mono ?_; rintro e w' ⟨rfl, rfl⟩))
      go_ret
      rw [HN.out]
      exact ⟨rfl, HL.out.stH i cpu, (Ch.refl _ _).st (by simp) _⟩
    · have h2 : cpuB s.c cpu = false := by simpa using h2
      have HN := Lib.hid (show homeS s slot cpu = s by unfold homeS; rw [h1, h2]; rfl)
      rw [h1, h2]
      rw [h2] at HC
      clear h1 h2 l
      go_enter Try.func61, Try.ntmps61
      go_wp2_with (first | (go_at_call 100; refine (bplace _ _ _).mono ?_; rintro e w' ⟨rfl, rfl⟩; rw [HP.out]) | (go_at_call 101; refine (HC.out).mono ?_; rintro e w' ⟨rfl, rfl⟩))
      go_ret
      rw [HN.out]
      exact ⟨rfl, HL.out, Ch.refl _ _⟩
  · have h1 : placeB slot = false := by simpa using h1
    have HP := Lib.hid h1
    have HN := Lib.hid (show homeS s slot cpu = s by unfold homeS; rw [h1]; rfl)
    rw [h1]
    clear h1 l
    go_enter Try.func61, Try.ntmps61
    go_wp2_with (go_at_call 100; refine (bplace _ _ _).mono ?_; rintro e w' ⟨rfl, rfl⟩; rw [HP.out])
    go_ret
    rw [HN.out]
    exact ⟨rfl, HL.out, Ch.refl _ _⟩
end
/-- Is a word live, and whose? -/
def liveI (f : Nat → Int) (u : Int) : Int := if goodB (u / 256) (u % 256) && decide (f (u % 256).toNat = u) then u % 256 else 0
def liveB (f : Nat → Int) (u : Int) : Bool := goodB (u / 256) (u % 256) && decide (f (u % 256).toNat = u)
theorem blive (g h : Nat) (s : BS) (u : Int) (w : World) (l : BookAt w g h s) (h0 : 0 ≤ u) (h1 : u ≤ 18446744073709551615) : Calls Try.prog 49 #[.pointer (some ⟨g, 0, none⟩), .int .u64 u] w fun e w' => e = .returned (.tuple #[.int .i64 (liveI s.f u), .bool (liveB s.f u)]) ∧ Gr w w' := by
  obtain ⟨c0, c1⟩ := l.head
  have C : Hid (Calls Try.prog 104 #[.pointer (some ⟨h, 0, none⟩), .int .u64 u] w fun e w' => e = .returned (.tuple #[.int .i64 (liveI s.f u), .bool (liveB s.f u)]) ∧ Gr w w') := Lib.hid (by
    unfold liveI liveB
    by_cases hg : goodB (u / 256) (u % 256) = true
    · by_cases hf : s.f (u % 256).toNat = u
      · rw [hg, show (true && decide (s.f (u % 256).toNat = u)) = true by simpa using hf, if_pos rfl]
        exact live_yes h s.last s.f u w l.tag h0 h1 hg hf
      · rw [hg, show (true && decide (s.f (u % 256).toNat = u)) = false by simpa using hf, if_neg (by simp)]
        exact live_no h s.last s.f u w l.tag h0 h1 hg hf
    · have hg : goodB (u / 256) (u % 256) = false := by simpa using hg
      rw [hg, show (false && decide (s.f (u % 256).toNat = u)) = false from rfl, if_neg (by simp)]
      exact live_bad _ u w h0 h1 hg)
  clear l
  generalize liveI s.f u = q at *
  generalize liveB s.f u = b at *
  go_enter Try.func49, Try.ntmps49
  go_wp2_with (go_at_call 104; refine (C.out).mono ?_; rintro e w1 ⟨rfl, g1⟩)
  go_ret2
  exact ⟨rfl, g1⟩

/-- Place. -/
def freshB (s : BS) (slot : Int) (anew : Bool) : Bool := anew || !stB s.f slot
def plS (s : BS) (i : Nat) (cpu level now : Int) (anew : Bool) : BS :=
  { c := s.c, last := s.last + 1, f := setF s.f i ((s.last + 1) * 256 + i), hm := upd s.hm i cpu, lv := upd s.lv i (holdI level), sc := if freshB s i anew then upd s.sc i now else s.sc, mv := if freshB s i anew then upd s.mv i false else s.mv }
theorem bplace_no (g h : Nat) (s : BS) (slot cpu level now : Int) (anew : Bool) (w : World) (l : BookAt w g h s) (hn : (placeB slot && cpuB s.c cpu) = false) :
    Calls Try.prog 48 #[.pointer (some ⟨g, 0, none⟩), .int .i64 slot, .int .i64 cpu, .int .i64 level, .int .u64 now, .bool anew] w fun e w' => e = .returned (.tuple #[.int .u64 0, .bool false]) ∧ w = w' := by
  have HC := Lib.hid (bcpu g h s cpu w l)
  by_cases h1 : placeB slot = true
  · have HP := Lib.hid h1
    rw [h1] at hn
    rw [show cpuB s.c cpu = false by simpa using hn] at HC
    clear h1 l hn
    go_enter Try.func48, Try.ntmps48
    go_wp2_with (first | (go_at_call 100; refine (bplace _ _ _).mono ?_; rintro e w' ⟨rfl, rfl⟩; rw [HP.out]) | (go_at_call 101; refine (HC.out).mono ?_; rintro e w' ⟨rfl, rfl⟩))
    go_ret2
    exact ⟨rfl, rfl⟩
  · have HP := Lib.hid (show placeB slot = false by simpa using h1)
    clear h1 l hn
    go_enter Try.func48, Try.ntmps48
    go_wp2_with (go_at_call 100; refine (bplace _ _ _).mono ?_; rintro e w' ⟨rfl, rfl⟩; rw [HP.out])
    go_ret2
    exact ⟨rfl, rfl⟩
theorem bplace_yes (g h : Nat) (s : BS) (i : Nat) (cpu level now : Int) (anew : Bool) (w : World) (l : BookAt w g h s) (hi : i < 64) (hc : cpuB s.c cpu = true) (hl : s.last < 72057594037927935) :
    Calls Try.prog 48 #[.pointer (some ⟨g, 0, none⟩), .int .i64 i, .int .i64 cpu, .int .i64 level, .int .u64 now, .bool anew] w fun e w' => e = .returned (.tuple #[.int .u64 ((s.last + 1) * 256 + i), .bool true]) ∧ BookAt w' g h (plS s i cpu level now anew) ∧ Ch [g, h] w w' := by
  have HC := Lib.hid (bcpu g h s cpu w l)
  rw [hc] at HC
  have HP := Lib.hid ((place_iff (i : Int)).2 (by omega))
  have HS := Lib.hid (fun w l => bstands g h s i w l)
  have HL := Lib.hid l
  have HH := Lib.hid (fun w => ghold level w)
  have hgood : goodB (s.last + 1) (i : Int) = true := (good_iff _ _).2 (by have := l.l0; omega)
  have hword : wordI (s.last + 1) (i : Int) = (s.last + 1) * 256 + i := by unfold wordI; rw [if_pos hgood]
  obtain ⟨c0, c1, c2, c3, cf⟩ := l.one hi
  generalize hq1 : s.hm i = q1 at c0
  generalize hq2 : s.lv i = q2 at c1
  generalize hq3 : s.sc i = q3 at c2
  generalize hq4 : s.mv i = q4 at c3
  clear hq1 hq2 hq3 hq4
  obtain ⟨lv', hlv⟩ : ∃ lv', holdI level = lv' := ⟨_, rfl⟩
  rw [hlv] at HH
  have key : ∀ (W : World) (s' : BS), BookAt W g h s' → s'.last = s.last → s'.f = s.f → Calls Try.prog 103 #[.pointer (some ⟨h, 0, none⟩), .int .i64 i] W fun e w' => e = .returned (.tuple #[.int .u64 ((s.last + 1) * 256 + i), .bool true]) ∧ BookAt w' g h { s' with last := s.last + 1, f := setF s.f i ((s.last + 1) * 256 + i) } ∧ Ch [h] W w' := by
    intro W s' l' e1 e2
    have := next_yes h s'.last s'.f i W l'.tag l'.l0.1 l'.l0.2 (by rw [e1]; exact hgood)
    refine this.mono ?_
    rintro e w' ⟨rfl, hb, k⟩
    rw [e1, e2, hword] at hb
    rw [e1, hword]
    exact ⟨rfl, l'.tg k hb (by have := l.l0; omega), k⟩
  have HK := Lib.hid key
  have HV := Lib.hid hlv
  clear key hgood hword hlv l hc
  by_cases hf : freshB s i anew = true
  · have HF : Hid (plS s i cpu level now anew = { c := s.c, last := s.last + 1, f := setF s.f i ((s.last + 1) * 256 + i), hm := upd s.hm i cpu, lv := upd s.lv i lv', sc := upd s.sc i now, mv := upd s.mv i false }) := Lib.hid (by unfold plS; rw [hf, HV.out]; rfl)
    have hb : anew = true ∨ (anew = false ∧ stB s.f i = false) := by
      unfold freshB at hf
      cases anew
      · right; simpa using hf
      · left; rfl
    clear hf
    have HK' := Lib.hid (HK.out _ _ ((((HL.out.stS i now).stM i false).stH i cpu).stL i lv') rfl rfl)
    have HE : Hid (∀ w', Ch [h] ((((w.setCell ⟨g, 2 + i * 4 + 2, none⟩ (.int .u64 now)).setCell ⟨g, 2 + i * 4 + 3, none⟩ (.bool false)).setCell ⟨g, 2 + i * 4, none⟩ (.int .i64 cpu)).setCell ⟨g, 2 + i * 4 + 1, none⟩ (.int .i64 lv')) w' → Ch [g, h] w w') := Lib.hid (fun w' k => ((((((Ch.refl [g, h] w).st (by simp) _).st (by simp) _).st (by simp) _).st (by simp) _).tr k (by simp)))
    obtain ⟨d0, d1⟩ := HL.out.head
    rcases hb with rfl | ⟨rfl, hs⟩
    · go_enter Try.func48, Try.ntmps48
      go_wp2_with (first | (go_at_call 100; refine (bplace _ _ _).mono ?_; rintro e w' ⟨rfl, rfl⟩; rw [HP.out]) | (go_at_call 101; refine (HC.out).mono ?_; rintro e w' ⟨rfl, rfl⟩) | (go_at_call 102; refine (HH.out _).mono ?_; rintro e w' ⟨rfl, rfl⟩) | (go_at_call 103; refine (HK'.out).mono ?_; rintro e w1 ⟨rfl, hb1, k1⟩))
      go_ret2
      rw [HF.out]
      exact ⟨rfl, hb1, HE.out _ k1⟩
    · rw [hs] at HS
      clear hs
      go_enter Try.func48, Try.ntmps48
      go_wp2_with (first | (go_at_call 100; refine (bplace _ _ _).mono ?_; rintro e w' ⟨rfl, rfl⟩; rw [HP.out]) | (go_at_call 101; refine (HC.out).mono ?_; rintro e w' ⟨rfl, rfl⟩) | (go_at_call 98; refine (HS.out _ HL.out).mono ?_; rintro e w' ⟨rfl, rfl⟩) | (go_at_call 102; refine (HH.out _).mono ?_; rintro e w' ⟨rfl, rfl⟩) | (go_at_call 103; refine (HK'.out).mono ?_; rintro e w1 ⟨rfl, hb1, k1⟩))
      go_ret2
      rw [HF.out]
      exact ⟨rfl, hb1, HE.out _ k1⟩
  · have HF : Hid (plS s i cpu level now anew = { c := s.c, last := s.last + 1, f := setF s.f i ((s.last + 1) * 256 + i), hm := upd s.hm i cpu, lv := upd s.lv i lv', sc := s.sc, mv := s.mv }) := Lib.hid (by unfold plS; rw [if_neg hf, if_neg hf, HV.out])
    have hb : anew = false ∧ stB s.f i = true := by
      unfold freshB at hf
      cases anew
      · refine ⟨rfl, ?_⟩; simpa using hf
      · simp at hf
    obtain ⟨rfl, hs⟩ := hb
    rw [hs] at HS
    clear hf hs
    have HK' := Lib.hid (HK.out _ _ ((HL.out.stH i cpu).stL i lv') rfl rfl)
    have HE : Hid (∀ w', Ch [h] ((w.setCell ⟨g, 2 + i * 4, none⟩ (.int .i64 cpu)).setCell ⟨g, 2 + i * 4 + 1, none⟩ (.int .i64 lv')) w' → Ch [g, h] w w') := Lib.hid (fun w' k => ((((Ch.refl [g, h] w).st (by simp) _).st (by simp) _).tr k (by simp)))
    obtain ⟨d0, d1⟩ := HL.out.head
    go_enter Try.func48, Try.ntmps48
    go_wp2_with (first | (go_at_call 100; refine (bplace _ _ _).mono ?_; rintro e w' ⟨rfl, rfl⟩; rw [HP.out]) | (go_at_call 101; refine (HC.out).mono ?_; rintro e w' ⟨rfl, rfl⟩) | (go_at_call 98; refine (HS.out _ HL.out).mono ?_; rintro e w' ⟨rfl, rfl⟩) | (go_at_call 102; refine (HH.out _).mono ?_; rintro e w' ⟨rfl, rfl⟩) | (go_at_call 103; refine (HK'.out).mono ?_; rintro e w1 ⟨rfl, hb1, k1⟩))
    go_ret2
    rw [HF.out]
    exact ⟨rfl, hb1, HE.out _ k1⟩

theorem bword_nil (slot : Int) (w : World) : Calls Try.prog 50 #[.pointer none, .int .i64 slot] w fun e w' => e = .returned (.int .u64 0) ∧ w = w' := by
  go_enter Try.func50, Try.ntmps50
  go_wp2_with (go_at_call 100; refine (bplace_nil _ _).mono ?_; rintro e w' ⟨rfl, rfl⟩)
  go_ret
  exact ⟨rfl, rfl⟩

theorem bhome_nil (slot : Int) (w : World) : Calls Try.prog 60 #[.pointer none, .int .i64 slot] w fun e w' => e = .returned (.int .i64 0) ∧ w = w' := by
  go_enter Try.func60, Try.ntmps60
  go_wp2_with (go_at_call 100; refine (bplace_nil _ _).mono ?_; rintro e w' ⟨rfl, rfl⟩)
  go_ret
  exact ⟨rfl, rfl⟩

theorem bsethome_nil (slot cpu : Int) (w : World) : Calls Try.prog 61 #[.pointer none, .int .i64 slot, .int .i64 cpu] w fun e w' => e = .returned (.bool false) ∧ w = w' := by
  go_enter Try.func61, Try.ntmps61
  go_wp2_with (go_at_call 100; refine (bplace_nil _ _).mono ?_; rintro e w' ⟨rfl, rfl⟩)
  go_ret
  exact ⟨rfl, rfl⟩

theorem bplace_n (slot cpu level now : Int) (anew : Bool) (w : World) : Calls Try.prog 48 #[.pointer none, .int .i64 slot, .int .i64 cpu, .int .i64 level, .int .u64 now, .bool anew] w fun e w' => e = .returned (.tuple #[.int .u64 0, .bool false]) ∧ w = w' := by
  go_enter Try.func48, Try.ntmps48
  go_wp2_with (go_at_call 100; refine (bplace_nil _ _).mono ?_; rintro e w' ⟨rfl, rfl⟩)
  go_ret2
  exact ⟨rfl, rfl⟩

theorem bqueued_nil (slot : Int) (w : World) : Calls Try.prog 62 #[.pointer none, .int .i64 slot] w fun e w' => e = .returned (.int .i64 8) ∧ w = w' := by
  go_enter Try.func62, Try.ntmps62
  go_wp2_with (go_at_call 98; refine (bstands_nil _ _).mono ?_; rintro e w' ⟨rfl, rfl⟩)
  go_ret
  exact ⟨rfl, rfl⟩

theorem bsince_nil (slot : Int) (w : World) : Calls Try.prog 63 #[.pointer none, .int .i64 slot] w fun e w' => e = .returned (.int .u64 0) ∧ w = w' := by
  go_enter Try.func63, Try.ntmps63
  go_wp2_with (go_at_call 98; refine (bstands_nil _ _).mono ?_; rintro e w' ⟨rfl, rfl⟩)
  go_ret
  exact ⟨rfl, rfl⟩

theorem bmoved_nil (slot : Int) (w : World) : Calls Try.prog 64 #[.pointer none, .int .i64 slot] w fun e w' => e = .returned (.bool false) ∧ w = w' := by
  go_enter Try.func64, Try.ntmps64
  go_wp2_with (go_at_call 98; refine (bstands_nil _ _).mono ?_; rintro e w' ⟨rfl, rfl⟩)
  go_ret
  exact ⟨rfl, rfl⟩

theorem bmark_nil (slot : Int) (w : World) : Calls Try.prog 65 #[.pointer none, .int .i64 slot] w fun e w' => e = .returned (.bool false) ∧ w = w' := by
  go_enter Try.func65, Try.ntmps65
  go_wp2_with (go_at_call 98; refine (bstands_nil _ _).mono ?_; rintro e w' ⟨rfl, rfl⟩)
  go_ret
  exact ⟨rfl, rfl⟩

theorem bdrop_nil (slot : Int) (w : World) : Calls Try.prog 47 #[.pointer none, .int .i64 slot] w fun e w' => e = .returned (.bool false) ∧ w = w' := by
  go_enter Try.func47, Try.ntmps47
  go_wp2_with (go_at_call 98; refine (bstands_nil _ _).mono ?_; rintro e w' ⟨rfl, rfl⟩)
  go_ret
  exact ⟨rfl, rfl⟩

theorem blive_nil (u : Int) (w : World) : Calls Try.prog 49 #[.pointer none, .int .u64 u] w fun e w' => e = .returned (.tuple #[.int .i64 0, .bool false]) ∧ w = w' := by
  go_enter Try.func49, Try.ntmps49
  go_wp2
  go_ret2
  exact ⟨rfl, rfl⟩

theorem bloads_nil  (w : World) : Calls Try.prog 55 #[.pointer none] w fun e w' => e = .returned (.slice none 0 0) ∧ w = w' := by
  go_enter Try.func55, Try.ntmps55
  go_wp2
  go_ret
  exact ⟨rfl, rfl⟩

theorem blate_nil (a b : Int) (w : World) : Calls Try.prog 57 #[.pointer none, .int .u64 a, .int .u64 b] w fun e w' => e = .returned (.slice none 0 0) ∧ w = w' := by
  go_enter Try.func57, Try.ntmps57
  go_wp2
  go_ret
  exact ⟨rfl, rfl⟩

end Go.Proofs.Ytkkobbomipcpoaa
