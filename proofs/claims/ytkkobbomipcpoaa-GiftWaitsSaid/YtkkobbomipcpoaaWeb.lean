/- Contracts of the functions of chapter 24 (web), for every input: what each returns, and what it does to its web. -/
import Derived.Test.YtkkobbomipcpoaaKit6
import Derived.Test.YtkkobbomipcpoaaProg
import Derived.IntWalk
namespace Go.Proofs.Ytkkobbomipcpoaa
open Go.RowKit
set_option linter.unusedVariables false

def upd {α : Type} (f : Nat → α) (i : Nat) (x : α) : Nat → α := fun j => if j = i then x else f j
def clampI (x lo hi : Int) : Int := if x < lo then lo else if hi < x then hi else x
/-- Who waits for whom: n threads, m locks; of each lock its owner, of each thread what it waits for. -/
structure WebS where
  n : Nat
  m : Nat
  ow : Nat → Int
  lk : Nat → Int
  jn : Nat → Int
namespace WebS
variable (s : WebS)
def th (t : Int) : Bool := decide (0 ≤ t ∧ t < s.n)
def lo (l : Int) : Bool := decide (0 ≤ l ∧ l < s.m)
def owner (l : Int) : Int := if s.lo l then s.ow l.toNat else -1
def lkOf (t : Int) : Int := if s.th t then s.lk t.toNat else -1
def jnOf (t : Int) : Int := if s.th t then s.jn t.toNat else -1
def next (t : Int) : Int := if s.lkOf t ≠ -1 then s.owner (s.lkOf t) else s.jnOf t
/-- All numbers are in their bounds. -/
structure Ok : Prop where
  n64 : s.n ≤ 64
  m64 : s.m ≤ 64
  ow : ∀ i, -1 ≤ s.ow i ∧ s.ow i < s.n
  lk : ∀ i, -1 ≤ s.lk i ∧ s.lk i < s.m
  jn : ∀ i, -1 ≤ s.jn i ∧ s.jn i < s.n
end WebS
def waitG (s : WebS) (i k : Nat) : Value := match k with | 0 => .int .i64 (s.lk i) | _ => .int .i64 (s.jn i)
def ownG (s : WebS) (i _k : Nat) : Value := .int .i64 (s.ow i)
/-- A web: the struct in block g, the owners in block a, the waits in block b. -/
structure WebAt (w : World) (g a b : Nat) (s : WebS) : Prop where
  hdr : Blk w g 98 #[.slice (some ⟨a, 0, none⟩) s.m s.m, .slice (some ⟨b, 0, none⟩) s.n s.n]
  own : Blk w a 3 (recs s.m 1 (ownG s))
  wts : Blk w b 100 (recs s.n 2 (waitG s))
  ok : s.Ok
section
variable {w w' : World} {g a b : Nat} {s : WebS} {S : List Nat} (l : WebAt w g a b s)
include l
theorem WebAt.ch (k : Ch S w w') (h : Disj [g, a, b] S) : WebAt w' g a b s := ⟨l.hdr.ch k (h g (by simp)), l.own.ch k (h a (by simp)), l.wts.ch k (h b (by simp)), l.ok⟩
theorem WebAt.gr (k : Gr w w') : WebAt w' g a b s := ⟨l.hdr.gr k, l.own.gr k, l.wts.gr k, l.ok⟩
theorem WebAt.inn : In w [g, a, b] := by
  intro k hk
  simp at hk
  rcases hk with rfl | rfl | rfl
  · exact l.hdr.lt
  · exact l.own.lt
  · exact l.wts.lt
theorem WebAt.ownc {i : Nat} (hi : i < s.m) : w.cell? ⟨a, i, none⟩ = some (.int .i64 (s.ow i)) ∧ w.frozen? ⟨a, i, none⟩ = false := by
  have := (l.own.cell _).trans (recs_get s.m 1 (ownG s) i 0 hi (by omega))
  simp only [Nat.mul_one, Nat.add_zero] at this
  exact ⟨this, l.own.frozen _⟩
theorem WebAt.wtsc {i : Nat} (hi : i < s.n) : w.cell? ⟨b, i * 2, none⟩ = some (.int .i64 (s.lk i)) ∧ w.cell? ⟨b, i * 2 + 1, none⟩ = some (.int .i64 (s.jn i)) ∧ ∀ j, w.frozen? ⟨b, j, none⟩ = false :=
  ⟨(l.wts.cell _).trans (recs_get s.n 2 _ i 0 hi (by omega)), (l.wts.cell _).trans (recs_get s.n 2 _ i 1 hi (by omega)), l.wts.frozen⟩
theorem WebAt.ne : g ≠ a ∧ g ≠ b ∧ a ≠ b := by
  have h1 := l.hdr
  have h2 := l.own
  have h3 := l.wts
  unfold Blk at h1 h2 h3
  refine ⟨?_, ?_, ?_⟩
  · rintro rfl; rw [h1] at h2; simp at h2
  · rintro rfl; rw [h1] at h3; simp at h3
  · rintro rfl; rw [h2] at h3; simp at h3
end
theorem th_nil (t : Int) (w : World) : Calls Try.prog 77 #[.pointer none, .int .i64 t] w fun e w' => e = .returned (.bool false) ∧ w = w' := by
  go_enter Try.func77, Try.ntmps77
  go_wp2
  go_ret
  exact ⟨rfl, rfl⟩
theorem lo_nil (t : Int) (w : World) : Calls Try.prog 76 #[.pointer none, .int .i64 t] w fun e w' => e = .returned (.bool false) ∧ w = w' := by
  go_enter Try.func76, Try.ntmps76
  go_wp2
  go_ret
  exact ⟨rfl, rfl⟩
section
variable (g a b : Nat) (s : WebS) (w : World) (l : WebAt w g a b s)
include l
theorem th_any (t : Int) : Calls Try.prog 77 #[.pointer (some ⟨g, 0, none⟩), .int .i64 t] w fun e w' => e = .returned (.bool (s.th t)) ∧ w = w' := by
  obtain ⟨c0, c1, cf⟩ := l.hdr.c2
  by_cases h0 : 0 ≤ t
  · obtain ⟨i, rfl⟩ := Int.eq_ofNat_of_zero_le h0
    go_enter Try.func77, Try.ntmps77
    go_wp2
    go_ret
    exact ⟨ret_bool (by simp [WebS.th]), rfl⟩
  · have hd : decide (0 ≤ t) = false := by simpa using h0
    have hs : s.th t = false := by simp [WebS.th]; omega
    rw [hs]
    go_enter Try.func77, Try.ntmps77
    go_wp2
    go_ret
    exact ⟨rfl, rfl⟩
theorem lo_any (t : Int) : Calls Try.prog 76 #[.pointer (some ⟨g, 0, none⟩), .int .i64 t] w fun e w' => e = .returned (.bool (s.lo t)) ∧ w = w' := by
  obtain ⟨c0, c1, cf⟩ := l.hdr.c2
  by_cases h0 : 0 ≤ t
  · obtain ⟨i, rfl⟩ := Int.eq_ofNat_of_zero_le h0
    go_enter Try.func76, Try.ntmps76
    go_wp2
    go_ret
    exact ⟨ret_bool (by simp [WebS.lo]), rfl⟩
  · have hd : decide (0 ≤ t) = false := by simpa using h0
    have hs : s.lo t = false := by simp [WebS.lo]; omega
    rw [hs]
    go_enter Try.func76, Try.ntmps76
    go_wp2
    go_ret
    exact ⟨rfl, rfl⟩
theorem owner_any (t : Int) : Calls Try.prog 24 #[.pointer (some ⟨g, 0, none⟩), .int .i64 t] w fun e w' => e = .returned (.int .i64 (s.owner t)) ∧ w = w' := by
  have C := Lib.hid (lo_any g a b s w l t)
  obtain ⟨c0, c1, cf⟩ := l.hdr.c2
  unfold WebS.owner
  cases h : s.lo t
  · rw [h] at C
    rw [if_neg (by simp)]
    clear h
    go_enter Try.func24, Try.ntmps24
    go_wp2_with (go_at_call 76; refine (C.out).mono ?_; rintro e w' ⟨rfl, rfl⟩)
    go_ret
    exact ⟨rfl, rfl⟩
  · rw [h] at C
    rw [if_pos rfl]
    simp only [WebS.lo, decide_eq_true_eq] at h
    obtain ⟨i, rfl⟩ := Int.eq_ofNat_of_zero_le h.1
    have him : i < s.m := by omega
    obtain ⟨o0, _⟩ := l.ownc him
    have hm := l.ok.m64
    rw [Int.toNat_natCast]
    generalize s.ow i = o at o0 ⊢
    clear h
    go_enter Try.func24, Try.ntmps24
    go_wp2_with (go_at_call 76; refine (C.out).mono ?_; rintro e w' ⟨rfl, rfl⟩)
    go_ret
    exact ⟨rfl, rfl⟩
theorem waits_any (t : Int) : Calls Try.prog 41 #[.pointer (some ⟨g, 0, none⟩), .int .i64 t] w fun e w' => e = .returned (.tuple #[.int .i64 (s.lkOf t), .int .i64 (s.jnOf t)]) ∧ Gr w w' := by
  have C := Lib.hid (th_any g a b s w l t)
  obtain ⟨c0, c1, cf⟩ := l.hdr.c2
  unfold WebS.lkOf WebS.jnOf
  cases h : s.th t
  · rw [h] at C
    rw [if_neg (by simp), if_neg (by simp)]
    clear h
    go_enter Try.func41, Try.ntmps41
    go_wp2_with (go_at_call 77; refine (C.out).mono ?_; rintro e w' ⟨rfl, rfl⟩)
    go_ret2
    exact ⟨rfl, Gr.refl w⟩
  · rw [h] at C
    rw [if_pos rfl, if_pos rfl]
    simp only [WebS.th, decide_eq_true_eq] at h
    obtain ⟨i, rfl⟩ := Int.eq_ofNat_of_zero_le h.1
    have him : i < s.n := by omega
    obtain ⟨o0, o1, _⟩ := l.wtsc him
    have hm := l.ok.n64
    rw [Int.toNat_natCast]
    generalize s.lk i = o at o0 ⊢
    generalize s.jn i = o' at o1 ⊢
    clear h
    have i1 : (0 : Int) ≤ (i : Int) := by omega
    have i2 : (i : Int) < (s.n : Int) := by omega
    go_enter Try.func41, Try.ntmps41
    go_upto_region 3 with (go_at_call 77; refine (C.out).mono ?_; rintro e w' ⟨rfl, rfl⟩)
    go_quiet (fail)
    go_wp2
    go_ret2
    exact ⟨rfl, (Gr.refl w).drewN _⟩
end
end Go.Proofs.Ytkkobbomipcpoaa
