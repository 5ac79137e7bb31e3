/- Chapter 24 (web): the document's web in memory, and what its functions return. -/
import Derived.Test.YtkkobbomipcpoaaWebN
namespace Go.Proofs.Ytkkobbomipcpoaa
open Go.RowKit
set_option linter.unusedVariables false
set_option maxHeartbeats 1000000
def lst (n : Nat) (f : Nat → Int) : List Int := (List.range n).map f
theorem lst_length (n : Nat) (f : Nat → Int) : (lst n f).length = n := by simp [lst]
theorem lst_getD (n : Nat) (f : Nat → Int) (i : Nat) (h : i < n) : (lst n f).getD i 0 = f i := by simp [lst, h]
theorem lst_set (n : Nat) (f : Nat → Int) (i : Nat) (x : Int) : (lst n f).set i x = lst n (upd f i x) := by
  apply List.ext_getElem?
  intro j
  rw [List.getElem?_set]
  unfold lst upd
  by_cases h : i = j
  · subst h
    by_cases hl : i < n <;> simp [hl]
  · have h' : ¬ j = i := fun e => h e.symm
    rw [if_neg h]
    by_cases hl : j < n <;> simp [hl, h']
theorem lst_succ (n : Nat) (f : Nat → Int) : lst (n + 1) f = lst n f ++ [f n] := by simp [lst, List.range_succ]
/-- The document's web: the struct in block h, three slices. -/
structure RefAt (w : World) (h : Nat) (vo vl vj : Value) (s : WebS) : Prop where
  hdr : Blk w h 44 #[vo, vl, vj]
  ow : Sl 3 .i64 w vo (lst s.m s.ow)
  lk : Sl 3 .i64 w vl (lst s.n s.lk)
  jn : Sl 3 .i64 w vj (lst s.n s.jn)
  d1 : Disj (sb vo) (sb vl)
  d2 : Disj (sb vo) (sb vj)
  d3 : Disj (sb vl) (sb vj)
  ok : s.Ok
def rows3 (vo vl vj : Value) : List Nat := sb vo ++ (sb vl ++ sb vj)
theorem Sl.at {e : TypeId} {w : World} {v : Value} {n : Nat} {f : Nat → Int} (h : Sl e .i64 w v (lst n f)) {i : Nat} (hi : i < n) : ∃ b off cp, v = .slice (some ⟨b, off, none⟩) n cp ∧ n ≤ cp ∧ cp ≤ 9223372036854775807 ∧ w.cell? ⟨b, off + i, none⟩ = some (.int .i64 (f i)) ∧ ∀ j, w.frozen? ⟨b, j, none⟩ = false := by
  obtain ⟨b, off, cp, h1, h2, h3, h4, h5, _⟩ := h.cells (by rw [lst_length]; omega)
  rw [lst_length] at h1 h2 h4
  have := h4 i hi
  rw [lst_getD _ _ _ hi] at this
  exact ⟨b, off, cp, h1, h2, h3, this, h5⟩
theorem Sl.hd {e : TypeId} {w : World} {v : Value} {n : Nat} {f : Nat → Int} (h : Sl e .i64 w v (lst n f)) : ∃ a cp, v = .slice a n cp ∧ n ≤ cp ∧ cp ≤ 9223372036854775807 := by
  obtain ⟨a, cp, h1, h2, h3⟩ := h.len
  rw [lst_length] at h1 h2
  exact ⟨a, cp, h1, h2, h3⟩
section
variable {w w' : World} {h : Nat} {vo vl vj : Value} {s : WebS} {S : List Nat} (l : RefAt w h vo vl vj s)
include l
theorem RefAt.ch (k : Ch S w w') (hd : Disj (h :: rows3 vo vl vj) S) : RefAt w' h vo vl vj s :=
  ⟨l.hdr.ch k (hd h (by simp)), l.ow.ch k (fun x hx => hd x (by simp [rows3, hx])), l.lk.ch k (fun x hx => hd x (by simp [rows3, hx])), l.jn.ch k (fun x hx => hd x (by simp [rows3, hx])), l.d1, l.d2, l.d3, l.ok⟩
theorem RefAt.gr (k : Gr w w') : RefAt w' h vo vl vj s := l.ch (k.ch []) (fun _ _ => by simp)
theorem RefAt.inn : In w (h :: rows3 vo vl vj) := by
  intro x hx
  simp only [List.mem_cons, rows3, List.mem_append] at hx
  rcases hx with rfl | hx | hx | hx
  · exact l.hdr.lt
  · exact l.ow.inn x hx
  · exact l.lk.inn x hx
  · exact l.jn.inn x hx
theorem RefAt.far : h ∉ rows3 vo vl vj := by
  intro hx
  simp only [rows3, List.mem_append] at hx
  rcases hx with hx | hx | hx
  · exact l.ow.ne l.hdr (by decide) hx
  · exact l.lk.ne l.hdr (by decide) hx
  · exact l.jn.ne l.hdr (by decide) hx
end
/-- The document's web behind a call. -/
def RefTo (w : World) (h : Nat) (vo vl vj : Value) (s : WebS) (w' : World) : Prop := RefAt w' h vo vl vj s ∧ Ch (rows3 vo vl vj) w w'
theorem RefAt.setOw {w : World} {h b off cp : Nat} {vl vj : Value} {s : WebS} (l : RefAt w h (.slice (some ⟨b, off, none⟩) s.m cp) vl vj s) (i : Nat) (hi : i < s.m) (t : Int) (ht : -1 ≤ t ∧ t < s.n) :
    RefTo w h (.slice (some ⟨b, off, none⟩) s.m cp) vl vj (s.setOw i t) (w.setCell ⟨b, off + i, none⟩ (.int .i64 t)) := by
  have k : Ch [b] w (w.setCell ⟨b, off + i, none⟩ (.int .i64 t)) := (Ch.refl _ _).st (by simp) _
  have hb : b ∈ sb (.slice (some ⟨b, off, none⟩) s.m cp) := by simp [sb]
  refine ⟨⟨l.hdr.ch k (fun hh => l.far (by simp at hh; subst hh; simp [rows3, sb])), ?_, l.lk.ch k (fun x hx hxb => by simp at hxb; subst hxb; exact l.d1 x hb hx), l.jn.ch k (fun x hx hxb => by simp at hxb; subst hxb; exact l.d2 x hb hx), l.d1, l.d2, l.d3, ⟨l.ok.n64, l.ok.m64, fun j => ?_, l.ok.lk, l.ok.jn⟩⟩, k.wide (by simp [rows3, sb])⟩
  · have h0 := l.ow
    rw [show (Value.slice (some ⟨b, off, none⟩) s.m cp) = .slice (some ⟨b, off, none⟩) (lst s.m s.ow).length cp by rw [lst_length]] at h0
    have := h0.st i (by rw [lst_length]; exact hi) t
    rw [lst_set, lst_length] at this
    exact this
  · unfold WebS.setOw upd
    simp only
    split
    · exact ht
    · exact l.ok.ow j
theorem RefAt.setW {w : World} {h b off cp b2 off2 cp2 : Nat} {vo : Value} {s : WebS} (l : RefAt w h vo (.slice (some ⟨b, off, none⟩) s.n cp) (.slice (some ⟨b2, off2, none⟩) s.n cp2) s) (i : Nat) (hi : i < s.n) (x y : Int) (hx : -1 ≤ x ∧ x < s.m) (hy : -1 ≤ y ∧ y < s.n) :
    RefTo w h vo (.slice (some ⟨b, off, none⟩) s.n cp) (.slice (some ⟨b2, off2, none⟩) s.n cp2) (s.setW i x y) ((w.setCell ⟨b, off + i, none⟩ (.int .i64 x)).setCell ⟨b2, off2 + i, none⟩ (.int .i64 y)) := by
  have k1 : Ch [b] w (w.setCell ⟨b, off + i, none⟩ (.int .i64 x)) := (Ch.refl _ _).st (by simp) _
  have k2 : Ch [b2] (w.setCell ⟨b, off + i, none⟩ (.int .i64 x)) ((w.setCell ⟨b, off + i, none⟩ (.int .i64 x)).setCell ⟨b2, off2 + i, none⟩ (.int .i64 y)) := (Ch.refl _ _).st (by simp) _
  have k : Ch [b, b2] w ((w.setCell ⟨b, off + i, none⟩ (.int .i64 x)).setCell ⟨b2, off2 + i, none⟩ (.int .i64 y)) := ((Ch.refl _ _).st (by simp) _).st (by simp) _
  have hb : b ∈ sb (.slice (some ⟨b, off, none⟩) s.n cp) := by simp [sb]
  have hb2 : b2 ∈ sb (.slice (some ⟨b2, off2, none⟩) s.n cp2) := by simp [sb]
  have hne : b ≠ b2 := fun e => l.d3 b hb (by simp [sb, e])
  have hl0 := l.lk
  have hj0 := l.jn
  rw [show (Value.slice (some ⟨b, off, none⟩) s.n cp) = .slice (some ⟨b, off, none⟩) (lst s.n s.lk).length cp by rw [lst_length]] at hl0
  rw [show (Value.slice (some ⟨b2, off2, none⟩) s.n cp2) = .slice (some ⟨b2, off2, none⟩) (lst s.n s.jn).length cp2 by rw [lst_length]] at hj0
  have e1 := hl0.st i (by rw [lst_length]; exact hi) x
  have e2 := (hj0.ch k1 (fun z hz hzb => by simp [sb] at hz hzb; omega)).st i (by rw [lst_length]; exact hi) y
  rw [lst_set, lst_length] at e1 e2
  refine ⟨⟨l.hdr.ch k (fun hh => l.far (by simp at hh; simp [rows3, sb, hh])), l.ow.ch k (fun z hz hzb => by simp at hzb; rcases hzb with rfl | rfl; exact l.d1 _ hz hb; exact l.d2 _ hz hb2), e1.ch k2 (fun z hz hzb => by simp [sb] at hz hzb; omega), e2, l.d1, l.d2, l.d3, ⟨l.ok.n64, l.ok.m64, l.ok.ow, fun j => ?_, fun j => ?_⟩⟩, k.wide (by simp [rows3, sb])⟩
  · unfold WebS.setW upd
    simp only
    split
    · exact hx
    · exact l.ok.lk j
  · unfold WebS.setW upd
    simp only
    split
    · exact hy
    · exact l.ok.jn j
section
variable (h : Nat) (vo vl vj : Value) (s : WebS) (w : World) (l : RefAt w h vo vl vj s)
include l
theorem rth (t : Int) : Calls Try.prog 81 #[.pointer (some ⟨h, 0, none⟩), .int .i64 t] w fun e w' => e = .returned (.bool (s.th t)) ∧ w = w' := by
  obtain ⟨al, cl, rfl, hl1, hl2⟩ := l.lk.hd
  obtain ⟨c0, c1, c2, cf⟩ := l.hdr.c3
  by_cases h0 : 0 ≤ t
  · obtain ⟨i, rfl⟩ := Int.eq_ofNat_of_zero_le h0
    go_enter Try.func81, Try.ntmps81
    go_wp2
    go_ret
    exact ⟨ret_bool (by simp [WebS.th]), rfl⟩
  · have hd : decide (0 ≤ t) = false := by simpa using h0
    have hs : s.th t = false := by simp [WebS.th]; omega
    rw [hs]
    go_enter Try.func81, Try.ntmps81
    go_wp2
    go_ret
    exact ⟨rfl, rfl⟩
theorem rlo (t : Int) : Calls Try.prog 82 #[.pointer (some ⟨h, 0, none⟩), .int .i64 t] w fun e w' => e = .returned (.bool (s.lo t)) ∧ w = w' := by
  obtain ⟨al, cl, rfl, hl1, hl2⟩ := l.ow.hd
  obtain ⟨c0, c1, c2, cf⟩ := l.hdr.c3
  by_cases h0 : 0 ≤ t
  · obtain ⟨i, rfl⟩ := Int.eq_ofNat_of_zero_le h0
    go_enter Try.func82, Try.ntmps82
    go_wp2
    go_ret
    exact ⟨ret_bool (by simp [WebS.lo]), rfl⟩
  · have hd : decide (0 ≤ t) = false := by simpa using h0
    have hs : s.lo t = false := by simp [WebS.lo]; omega
    rw [hs]
    go_enter Try.func82, Try.ntmps82
    go_wp2
    go_ret
    exact ⟨rfl, rfl⟩
theorem rwait (i : Nat) (x y : Int) (hi : i < s.n) (hx : -1 ≤ x ∧ x < s.m) (hy : -1 ≤ y ∧ y < s.n) : Calls Try.prog 23 #[.pointer (some ⟨h, 0, none⟩), .int .i64 i, .int .i64 x, .int .i64 y] w fun e w' => e = .returned (.tuple #[]) ∧ RefTo w h vo vl vj (s.setW i x y) w' := by
  obtain ⟨b, off, cp, rfl, h1, h2, lc, lf⟩ := l.lk.at hi
  obtain ⟨b2, off2, cp2, rfl, h12, h22, jc, jf⟩ := l.jn.at hi
  have HP := Lib.hid (l.setW i hi x y hx hy)
  obtain ⟨c0, c1, c2, cf⟩ := l.hdr.c3
  have i1 : (0 : Int) ≤ (i : Int) := by omega
  have i2 : (i : Int) < (s.n : Int) := by omega
  have hn64 := l.ok.n64
  have hne : h ≠ b := fun e => l.far (by simp [rows3, sb, e])
  have hne2 : b2 ≠ b := fun e => l.d3 b (by simp [sb]) (by simp [sb, e])
  clear l
  go_enter Try.func23, Try.ntmps23
  go_wp2
  go_end0
  exact ⟨rfl, HP.out⟩
theorem rown_no (x t : Int) (hm : s.mayOwn x t = false) : Calls Try.prog 80 #[.pointer (some ⟨h, 0, none⟩), .int .i64 x, .int .i64 t] w fun e w' => e = .returned (.bool false) ∧ w = w' := by
  have C := Lib.hid (rlo h vo vl vj s w l x)
  have C2 := Lib.hid (rth h vo vl vj s w l t)
  unfold WebS.mayOwn at hm
  cases h1 : s.lo x
  · rw [h1] at C
    clear hm h1
    go_enter Try.func80, Try.ntmps80
    go_wp2_with (go_at_call 82; refine (C.out).mono ?_; rintro e w1 ⟨rfl, rfl⟩)
    go_ret
    exact ⟨rfl, rfl⟩
  · rw [h1] at C
    simp [h1] at hm
    rw [hm.2] at C2
    have hd : (t != -1) = true := by simpa using hm.1
    clear hm h1
    go_enter Try.func80, Try.ntmps80
    go_wp2_with (first | (go_at_call 82; refine (C.out).mono ?_; rintro e w1 ⟨rfl, rfl⟩) | (go_at_call 81; refine (C2.out).mono ?_; rintro e w1 ⟨rfl, rfl⟩))
    go_ret
    exact ⟨rfl, rfl⟩
theorem rown_yes (i : Nat) (t : Int) (hm : s.mayOwn i t = true) : Calls Try.prog 80 #[.pointer (some ⟨h, 0, none⟩), .int .i64 i, .int .i64 t] w fun e w' => e = .returned (.bool true) ∧ RefTo w h vo vl vj (s.setOw i t) w' := by
  have C := Lib.hid (rlo h vo vl vj s w l i)
  have C2 := Lib.hid (rth h vo vl vj s w l t)
  unfold WebS.mayOwn at hm
  simp only [Bool.and_eq_true, Bool.or_eq_true, decide_eq_true_eq] at hm
  obtain ⟨h1, h2⟩ := hm
  rw [h1] at C
  simp only [WebS.lo, decide_eq_true_eq] at h1
  have him : i < s.m := by omega
  obtain ⟨b, off, cp, rfl, k1, k2, oc, of⟩ := l.ow.at him
  have hm := l.ok.m64
  obtain ⟨c0, c1, c2, cf⟩ := l.hdr.c3
  have ht : -1 ≤ t ∧ t < s.n := by
    rcases h2 with h2 | h2
    · omega
    · simp only [WebS.th, decide_eq_true_eq] at h2; omega
  have HP := Lib.hid (l.setOw i him t ht)
  have i1 : (0 : Int) ≤ (i : Int) := by omega
  have i2 : (i : Int) < (s.m : Int) := by omega
  clear l ht h1
  by_cases h3 : t = -1
  · subst h3
    go_enter Try.func80, Try.ntmps80
    go_wp2_with (first | (go_at_call 82; refine (C.out).mono ?_; rintro e w1 ⟨rfl, rfl⟩))
    go_ret
    exact ⟨rfl, HP.out⟩
  · have h4 : s.th t = true := by
      rcases h2 with h2 | h2
      · exact absurd h2 h3
      · exact h2
    rw [h4] at C2
    have hd : (t != -1) = true := by simpa using h3
    clear h2 h3 h4
    go_enter Try.func80, Try.ntmps80
    go_wp2_with (first | (go_at_call 82; refine (C.out).mono ?_; rintro e w1 ⟨rfl, rfl⟩) | (go_at_call 81; refine (C2.out).mono ?_; rintro e w1 ⟨rfl, rfl⟩))
    go_ret
    exact ⟨rfl, HP.out⟩
theorem rown (x t : Int) : Calls Try.prog 80 #[.pointer (some ⟨h, 0, none⟩), .int .i64 x, .int .i64 t] w fun e w' => e = .returned (.bool (s.mayOwn x t)) ∧ RefTo w h vo vl vj (s.ownS x t) w' := by
  unfold WebS.ownS
  cases hm : s.mayOwn x t
  · rw [if_neg (by simp)]
    exact (rown_no h vo vl vj s w l x t hm).mono fun e w' ⟨h1, h2⟩ => ⟨h1, h2 ▸ l, h2 ▸ Ch.refl _ _⟩
  · rw [if_pos rfl]
    have h' := hm
    simp only [WebS.mayOwn, WebS.lo, Bool.and_eq_true, decide_eq_true_eq] at h'
    obtain ⟨i, rfl⟩ := Int.eq_ofNat_of_zero_le h'.1.1
    exact rown_yes h vo vl vj s w l i t hm
theorem rnext (t : Int) : Calls Try.prog 30 #[.pointer (some ⟨h, 0, none⟩), .int .i64 t] w fun e w' => e = .returned (.int .i64 (s.next t)) ∧ Gr w w' := by
  have C := Lib.hid (rth h vo vl vj s w l t)
  unfold WebS.next WebS.lkOf WebS.jnOf
  cases ht : s.th t
  · rw [ht] at C
    simp
    clear ht
    go_enter Try.func30, Try.ntmps30
    go_wp2_with (go_at_call 81; refine (C.out).mono ?_; rintro e w1 ⟨rfl, rfl⟩)
    go_ret
    exact ⟨rfl, Gr.refl w⟩
  · rw [ht] at C
    simp only [if_true]
    simp only [WebS.th, decide_eq_true_eq] at ht
    obtain ⟨i, rfl⟩ := Int.eq_ofNat_of_zero_le ht.1
    have hi : i < s.n := by omega
    rw [Int.toNat_natCast]
    obtain ⟨c0, c1, c2, cf⟩ := l.hdr.c3
    have hlb := l.ok.lk i
    have hn64 := l.ok.n64
    have hm64 := l.ok.m64
    obtain ⟨b, off, cp, rfl, h1, h2, lc, lf⟩ := l.lk.at hi
    have i1 : (0 : Int) ≤ (i : Int) := by omega
    have i2 : (i : Int) < (s.n : Int) := by omega
    by_cases hx : s.lk i = -1
    · obtain ⟨b2, off2, cp2, rfl, h12, h22, jc, jf⟩ := l.jn.at hi
      rw [if_neg (by simp [hx])]
      rw [hx] at lc
      clear l ht
      generalize s.jn i = y at *
      go_enter Try.func30, Try.ntmps30
      go_wp2_with (go_at_call 81; refine (C.out).mono ?_; rintro e w1 ⟨rfl, rfl⟩)
      go_ret
      exact ⟨rfl, Gr.refl w⟩
    · obtain ⟨k, hk⟩ := Int.eq_ofNat_of_zero_le (show 0 ≤ s.lk i by omega)
      have hkm : k < s.m := by omega
      obtain ⟨b2, off2, cp2, rfl, h12, h22, jc, jf⟩ := l.ow.at hkm
      rw [if_pos hx]
      unfold WebS.owner WebS.lo
      rw [if_pos (by simp; omega)]
      rw [hk, Int.toNat_natCast]
      rw [hk] at lc
      clear l ht hx hk hlb
      have k1 : (0 : Int) ≤ (k : Int) := by omega
      have k2 : (k : Int) < (s.m : Int) := by omega
      generalize s.ow k = y at *
      go_enter Try.func30, Try.ntmps30
      go_upto_region 4 with (go_at_call 81; refine (C.out).mono ?_; rintro e w1 ⟨rfl, rfl⟩)
      go_quiet (fail)
      go_wp2
      go_ret
      exact ⟨rfl, (Gr.refl w).drewN _⟩
end
end Go.Proofs.Ytkkobbomipcpoaa
