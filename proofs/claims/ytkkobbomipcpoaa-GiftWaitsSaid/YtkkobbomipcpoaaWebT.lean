/- Chapter 24 (web): the document's chains and rings, and its new web. -/
import Derived.Test.YtkkobbomipcpoaaWebR
namespace Go.Proofs.Ytkkobbomipcpoaa
open Go.RowKit
set_option linter.unusedVariables false
set_option maxHeartbeats 1000000
def lenV : Value → Nat | .slice _ n _ => n | _ => 0
theorem rhas (zs : List Int) (x : Int) (v : Value) (w : World) (h : Sl 3 .i64 w v zs) (hl : zs.length ≤ 1000) : Calls Try.prog 112 #[v, .int .i64 x] w fun e w' => e = .returned (.bool (decide (x ∈ zs))) ∧ w = w' := by
  obtain ⟨a, cp, rfl, h1, h2, hr⟩ := h.row
  have HR := Lib.hid hr
  clear h hr
  go_enter Try.func112, Try.ntmps112
  go_wp2
  go_loopw [5] (fun i wr => ∃ k : Nat, k ≤ zs.length ∧ i = .int .i64 k ∧ x ∉ zs.take k ∧ w = wr) (fun i _ => zs.length - (intOf i).toNat)
  case atStart => exact ⟨0, by omega, rfl, by simp, rfl⟩
  case round =>
    obtain ⟨k, hk, rfl, hno, rfl⟩ := hrel
    have HN := Lib.hid hno
    clear hno
    by_cases hlt : k < zs.length
    · rcases HR.out with h0 | ⟨b, off, rfl, hc⟩
      · simp [h0] at hlt
      have c1 := hc k hlt
      have HT := Lib.hid (take_snoc zs k hlt)
      have HM := Lib.hid (show zs.getD k 0 ∈ zs by simp [hlt])
      generalize zs.getD k 0 = z at *
      clear hc
      have i1 : (0 : Int) ≤ (k : Int) := by omega
      have i2 : (k : Int) < (zs.length : Int) := by omega
      by_cases hz : z = x
      · subst hz
        go_wp2_with fail
        go_ret
        exact ⟨ret_bool (by simpa using HM.out), by first | rfl | trivial⟩
      · have hb : (z == x) = false := by simpa using hz
        go_wp2_with fail
        go_roundw
        case rel =>
          refine ⟨k + 1, by omega, by go_num, ?_, by first | rfl | trivial⟩
          rw [HT.out]
          intro hm
          rcases List.mem_append.1 hm with hm | hm
          · exact HN.out hm
          · simp at hm; exact hz hm.symm
        case measure => simp [intOf]; omega
    · obtain rfl : zs.length = k := by omega
      go_wp2
      go_ret
      refine ⟨ret_bool ?_, rfl⟩
      have := HN.out
      rw [List.take_length] at this
      simpa using this
theorem it_neg {f : Int → Int} (h1 : f (-1) = -1) {u : Int} {k : Nat} (h : it f u (k + 1) = -1) : ∀ j, it f u (k + j + 1) = -1
  | 0 => h
  | j + 1 => by show f (it f u (k + j + 1)) = -1; rw [it_neg h1 h j, h1]
theorem reach_yes {f : Int → Int} {n : Nat} {u t : Int} {k : Nat} (hk : k ≤ n) (h : it f u (k + 1) = t) : reach f n u t = true := by
  simp only [reach, decide_eq_true_eq]
  exact ⟨k, by omega, h⟩
theorem reach_no {f : Int → Int} {n : Nat} {u t : Int} (h : ∀ j, j < n + 1 → it f u (j + 1) ≠ t) : reach f n u t = false := by
  simp only [reach, decide_eq_false_iff_not]
  rintro ⟨j, hj, e⟩
  exact h j hj e
section
variable (h : Nat) (vo vl vj : Value) (s : WebS) (w : World) (l : RefAt w h vo vl vj s)
include l
theorem rchain (t : Int) : Calls Try.prog 95 #[.pointer (some ⟨h, 0, none⟩), .int .i64 t] w (NewChain w s.next t) := by
  have HB := Lib.hid (WebS.next_bd l.ok)
  have hn64 := l.ok.n64
  have C0 := Lib.hid (fun w' (g' : Gr w w') x => rnext h vo vl vj s w' (l.gr g') x)
  clear l
  go_enter Try.func95, Try.ntmps95
  go_wp2_with (go_at_call 30; refine (C0.out _ (Gr.refl w) _).mono ?_; rintro e w1 ⟨rfl, g1⟩)
  go_loopw [5, 6] (fun v i wr => ∃ k : Nat, i = .int .i64 (it s.next t (k + 1)) ∧ NoStop s.next t k ∧ Sl 3 .i64 wr v (trail s.next t k) ∧ (∀ b ∈ sb v, w.heap.size ≤ b) ∧ Gr w wr) (fun v _ _ => s.n - lenV v)
  case atStart => exact ⟨0, rfl, fun j hj => absurd hj (by omega), Sl.nil _ _ _, by simp [sb], g1⟩
  case round =>
    obtain ⟨k, rfl, hno, hv, hsb, gr⟩ := hrel
    have hb1 : -1 ≤ it s.next t (k + 1) ∧ it s.next t (k + 1) < (s.n : Int) := HB.out _
    have hkl : k ≤ s.n := hno.le HB.out
    have HN := Lib.hid hno
    clear hno
    by_cases h1 : it s.next t (k + 1) = -1
    · have HS := Lib.hid h1
      rw [h1]
      clear h1 hb1
      go_wp2_with fail
      go_ret
      exact ⟨k, ⟨.inl HS.out, HN.out⟩, _, rfl, hv, hsb, gr⟩
    · have hge : decide (0 ≤ it s.next t (k + 1)) = true := by simp; omega
      by_cases h2 : it s.next t (k + 1) = t
      · have HS := Lib.hid h2
        rw [h2] at hge ⊢
        have hne : (t != t) = false := by simp
        clear h1 h2 hb1
        go_wp2_with fail
        go_ret
        exact ⟨k, ⟨.inr (.inl HS.out), HN.out⟩, _, rfl, hv, hsb, gr⟩
      · have hne : (it s.next t (k + 1) != t) = true := by simpa using h2
        have CH := Lib.hid (rhas (trail s.next t k) (it s.next t (k + 1)) _ wr hv (by rw [trail_length]; omega))
        by_cases h3 : it s.next t (k + 1) ∈ trail s.next t k
        · rw [show decide (it s.next t (k + 1) ∈ trail s.next t k) = true by simpa using h3] at CH
          have HS := Lib.hid h3
          obtain ⟨x, hx⟩ : ∃ x, it s.next t (k + 1) = x := ⟨_, rfl⟩
          rw [hx] at hge hne CH ⊢
          clear h1 h2 h3 hb1 hx
          go_wp2_with (go_at_call 112; refine (CH.out).mono ?_; rintro e w2 ⟨rfl, rfl⟩)
          go_ret
          exact ⟨k, ⟨.inr (.inr (by first | exact HS.out)), HN.out⟩, _, rfl, hv, hsb, gr⟩
        · rw [show decide (it s.next t (k + 1) ∈ trail s.next t k) = false by simpa using h3] at CH
          have HNS := Lib.hid (HN.out.up (show ¬ Stop s.next t k by rintro (h | h | h) <;> contradiction))
          have hk2 : k + 1 ≤ s.n := HNS.out.le HB.out
          have HL := Lib.hid (trail_length (f := s.next) (t := t) k)
          have HX := Lib.hid (show ∀ x, it s.next t (k + 1) = x → trail s.next t (k + 1) = trail s.next t k ++ [x] ∧ it s.next t (k + 1 + 1) = s.next x from fun x hx => ⟨by rw [trail_succ, hx], by rw [← hx]; rfl⟩)
          obtain ⟨x, hx⟩ : ∃ x, it s.next t (k + 1) = x := ⟨_, rfl⟩
          rw [hx] at hge hne CH ⊢
          obtain ⟨X1, X2⟩ := HX.out x hx
          have HX2 := Lib.hid (And.intro X1 X2)
          clear X1 X2 HX hx h1 h2 h3 hb1
          obtain ⟨zs, hzs⟩ : ∃ zs, trail s.next t k = zs := ⟨_, rfl⟩
          have HZ := Lib.hid hzs
          rw [hzs] at hv HL HX2
          clear hzs
          have hzl : zs.length = k := HL.out
          go_wp2_with (first | (go_at_call 112; refine (CH.out).mono ?_; rintro e w2 ⟨rfl, rfl⟩) | (at_builtin; refine wpList_sl1 el22 .i64 (.tmp 26) (.tmp 28) _ _ _ _ _ rfl rfl rfl rfl hv ?_ ?_ ?_))
          · omega
          · omega
          intro v' w' hv' hch hf
          have g2 := gr.chs hch hsb
          have hl' := hv'.len
          go_wp2_with (go_at_call 30; refine (C0.out _ g2 _).mono ?_; rintro e w3 ⟨rfl, g3⟩)
          go_roundw
          case rel =>
            refine ⟨k + 1, by rw [HX2.out.2], HNS.out, by rw [HX2.out.1]; exact hv'.gr g3, fun b hb => ?_, g2.tr g3⟩
            rcases hf b hb with h | h
            · exact hsb b h
            · have := gr.size_le; omega
          case measure =>
            obtain ⟨a1, cp1, rfl, _, _⟩ := hl'
            obtain ⟨a2, cp2, rfl, _, _⟩ := hv.len
            simp [lenV]; omega
theorem rreach (u t : Int) (ht : t ≠ -1) : Calls Try.prog 93 #[.pointer (some ⟨h, 0, none⟩), .int .i64 u, .int .i64 t] w fun e w' => e = .returned (.bool (reach s.next s.n u t)) ∧ Gr w w' := by
  have HB := Lib.hid (WebS.next_bd l.ok)
  have hn64 := l.ok.n64
  have C0 := Lib.hid (fun w' (g' : Gr w w') x => rnext h vo vl vj s w' (l.gr g') x)
  obtain ⟨al, cl, rfl, hl1, hl2⟩ := l.lk.hd
  have HC := Lib.hid l.hdr
  clear l
  go_enter Try.func93, Try.ntmps93
  go_wp2_with fail
  go_loopw [7, 8] (fun x i wr => ∃ k : Nat, k ≤ s.n + 1 ∧ i = .int .i64 k ∧ x = .int .i64 (it s.next u k) ∧ (∀ j, j < k → it s.next u (j + 1) ≠ t) ∧ Gr w wr) (fun _ i _ => s.n + 1 - (intOf i).toNat)
  case atStart => exact ⟨0, by omega, rfl, rfl, fun j hj => absurd hj (by omega), Gr.refl w⟩
  case round =>
    obtain ⟨k, hk, rfl, rfl, hno, gr⟩ := hrel
    obtain ⟨c0, c1, c2, cf⟩ := (HC.out.gr gr).c3
    have HN := Lib.hid hno
    clear hno
    by_cases hlt : k ≤ s.n
    · have hd : decide ((k : Int) ≤ (s.n : Int)) = true := by simpa using hlt
      have C := Lib.hid (C0.out wr gr (it s.next u k))
      have hb1 : -1 ≤ it s.next u (k + 1) ∧ it s.next u (k + 1) < (s.n : Int) := HB.out _
      have HE := Lib.hid (show s.next (it s.next u k) = it s.next u (k + 1) from rfl)
      rw [HE.out] at C
      generalize it s.next u k = y at *
      by_cases h1 : it s.next u (k + 1) = -1
      · have HR := Lib.hid (reach_no (f := s.next) (n := s.n) (u := u) (t := t) (fun j hj => by
          by_cases hjk : j < k
          · exact HN.out j hjk
          · have := it_neg s.next_neg h1 (j - k)
            rw [show k + (j - k) + 1 = j + 1 by omega] at this
            rw [this]; exact ht.symm))
        rw [h1] at C
        clear h1 hb1
        go_wp2_with (go_at_call 30; refine (C.out).mono ?_; rintro e w1 ⟨rfl, g1⟩)
        go_ret
        exact ⟨by rw [HR.out]; rfl, gr.tr g1⟩
      · have hl0 : decide (it s.next u (k + 1) < 0) = false := by simp; omega
        by_cases h2 : it s.next u (k + 1) = t
        · have HR := Lib.hid (reach_yes hlt h2)
          rw [h2] at C hl0
          have htt : (t == t) = true := by simp
          clear h1 h2 hb1
          go_wp2_with (go_at_call 30; refine (C.out).mono ?_; rintro e w1 ⟨rfl, g1⟩)
          go_ret
          exact ⟨by rw [HR.out]; rfl, gr.tr g1⟩
        · have htt : (it s.next u (k + 1) == t) = false := by simpa using h2
          have H2 := Lib.hid h2
          clear h1 h2 hb1
          go_wp2_with (go_at_call 30; refine (C.out).mono ?_; rintro e w1 ⟨rfl, g1⟩)
          go_roundw
          case rel =>
            refine ⟨k + 1, by omega, by go_num, rfl, fun j hj => ?_, gr.tr g1⟩
            by_cases hjk : j = k
            · rw [hjk]; exact H2.out
            · exact HN.out j (by omega)
          case measure => simp [intOf]; omega
    · have hd : decide ((k : Int) ≤ (s.n : Int)) = false := by simp; omega
      go_wp2_with fail
      go_ret
      exact ⟨by rw [reach_no (fun j hj => HN.out j (by omega))]; rfl, gr⟩
theorem rcloses (t u : Int) : Calls Try.prog 39 #[.pointer (some ⟨h, 0, none⟩), .int .i64 t, .int .i64 u] w fun e w' => e = .returned (.bool (s.closes t u)) ∧ Gr w w' := by
  have C1 := Lib.hid (rth h vo vl vj s w l t)
  have C2 := Lib.hid (rth h vo vl vj s w l u)
  unfold WebS.closes
  cases ht : s.th t
  · rw [ht] at C1
    simp only [Bool.false_and]
    clear ht C2 l
    go_enter Try.func39, Try.ntmps39
    go_wp2_with (go_at_call 81; refine (C1.out).mono ?_; rintro e w1 ⟨rfl, rfl⟩)
    go_ret
    exact ⟨rfl, Gr.refl w⟩
  · cases hu : s.th u
    · rw [ht] at C1
      rw [hu] at C2
      simp only [Bool.false_and, Bool.and_false]
      clear ht hu l
      go_enter Try.func39, Try.ntmps39
      go_wp2_with (first | (go_at_call 81; (with_reducible refine (C1.out).mono ?_); rintro e w1 ⟨rfl, rfl⟩) | (go_at_call 81; (with_reducible refine (C2.out).mono ?_); rintro e w1 ⟨rfl, rfl⟩))
      go_ret
      exact ⟨rfl, Gr.refl w⟩
    · have htn : t ≠ -1 := by simp only [WebS.th, decide_eq_true_eq] at ht; omega
      have C3 := Lib.hid (rreach h vo vl vj s w l u t htn)
      rw [ht] at C1
      rw [hu] at C2
      simp only [Bool.true_and]
      generalize reach s.next s.n u t = q at *
      clear ht hu l
      by_cases htu : t = u
      · rw [show (decide (t = u) || q) = true by simp [htu]]
        have hb : (t == u) = true := by simpa using htu
        clear htu
        go_enter Try.func39, Try.ntmps39
        go_wp2_with (first | (go_at_call 81; (with_reducible refine (C1.out).mono ?_); rintro e w1 ⟨rfl, rfl⟩) | (go_at_call 81; (with_reducible refine (C2.out).mono ?_); rintro e w1 ⟨rfl, rfl⟩))
        go_ret
        exact ⟨rfl, Gr.refl w⟩
      · rw [show (decide (t = u) || q) = q by simp [htu]]
        have hb : (t == u) = false := by simpa using htu
        go_enter Try.func39, Try.ntmps39
        go_wp2_with (first | (go_at_call 81; (with_reducible refine (C1.out).mono ?_); rintro e w1 ⟨rfl, rfl⟩) | (go_at_call 81; (with_reducible refine (C2.out).mono ?_); rintro e w1 ⟨rfl, rfl⟩) | (go_at_call 93; refine (C3.out).mono ?_; rintro e w2 ⟨rfl, g2⟩))
        go_ret
        exact ⟨rfl, g2⟩
theorem rring : Calls Try.prog 96 #[.pointer (some ⟨h, 0, none⟩)] w fun e w' => e = .returned (.int .i64 s.ring) ∧ Gr w w' := by
  have hn64 := l.ok.n64
  have HC := Lib.hid (fun w' (g' : Gr w w') (t : Nat) => rreach h vo vl vj s w' (l.gr g') t t (by omega))
  obtain ⟨al, cl, rfl, hl1, hl2⟩ := l.lk.hd
  have HD := Lib.hid l.hdr
  clear l
  go_enter Try.func96, Try.ntmps96
  go_wp2_with fail
  go_loopw [3] (fun v wr => ∃ k : Nat, k ≤ s.n ∧ v = .int .i64 k ∧ (∀ j, j < k → reach s.next s.n (j : Nat) (j : Nat) = false) ∧ Gr w wr) (fun v _ => s.n - (intOf v).toNat)
  case atStart => exact ⟨0, by omega, rfl, fun j hj => absurd hj (by omega), Gr.refl w⟩
  case round =>
    obtain ⟨k, hk, rfl, hno, gr⟩ := hrel
    obtain ⟨c0, c1, c2, cf⟩ := (HD.out.gr gr).c3
    have HN := Lib.hid hno
    clear hno
    by_cases hlt : k < s.n
    · have hd : decide ((k : Int) < (s.n : Int)) = true := by simpa using hlt
      have C := Lib.hid (HC.out wr gr k)
      cases hr : reach s.next s.n k k
      · rw [hr] at C
        have HR := Lib.hid hr
        clear hr
        go_wp2_with (go_at_call 93; refine (C.out).mono ?_; rintro e w1 ⟨rfl, g1⟩)
        go_roundw
        case rel =>
          refine ⟨k + 1, by omega, by go_num, fun j hj => ?_, gr.tr g1⟩
          by_cases hjk : j = k
          · rw [hjk]; exact HR.out
          · exact HN.out j (by omega)
        case measure => simp [intOf]; omega
      · rw [hr] at C
        have HR := Lib.hid hr
        clear hr
        go_wp2_with (go_at_call 93; refine (C.out).mono ?_; rintro e w1 ⟨rfl, g1⟩)
        go_ret
        exact ⟨by rw [WebS.ring, ringI_yes HN.out hlt HR.out]; rfl, gr.tr g1⟩
    · have hks : s.n = k := by omega
      have hd : decide ((k : Int) < (s.n : Int)) = false := by simp; omega
      go_wp2_with fail
      go_ret
      exact ⟨by rw [WebS.ring, ringI_no (fun j hj => HN.out j (by omega))]; rfl, gr⟩
theorem ron (x : Int) : Calls Try.prog 94 #[.pointer (some ⟨h, 0, none⟩), .int .i64 x] w (NewL w (s.on x)) := by
  have C1 := Lib.hid (fun w' (g' : Gr w w') => rlo h vo vl vj s w' (l.gr g') x)
  have hn64 := l.ok.n64
  obtain ⟨al, cl, hvl, hl1, hl2⟩ := l.lk.hd
  have HL := Lib.hid (And.intro l.hdr l.lk)
  clear l
  have HO := Lib.hid (show ∀ k, (if s.lo x then onL s.lk x (k + 1) else []) = if s.lo x = true ∧ s.lk k = x then (if s.lo x then onL s.lk x k else []) ++ [(k : Int)] else (if s.lo x then onL s.lk x k else []) from fun k => by
    cases s.lo x
    · simp
    · simp [onL])
  have HLE := Lib.hid (show ∀ k, (if s.lo x then onL s.lk x k else []).length ≤ k from fun k => by
    have := onL_le s.lk x k
    split <;> simp <;> omega)
  unfold WebS.on
  obtain ⟨F, hF⟩ : ∃ F : Nat → List Int, F = fun k => if s.lo x then onL s.lk x k else [] := ⟨_, rfl⟩
  have hO : ∀ k, F (k + 1) = if s.lo x = true ∧ s.lk k = x then F k ++ [(k : Int)] else F k := by rw [hF]; exact HO.out
  have hLE : ∀ k, (F k).length ≤ k := by rw [hF]; exact HLE.out
  have h00 : F 0 = [] := by rw [hF]; simp [onL]
  rw [show (if s.lo x = true then onL s.lk x s.n else []) = F s.n by rw [hF]]
  clear HO HLE hF
  have HF := Lib.hid (And.intro hO (And.intro hLE h00))
  clear hO hLE h00
  go_enter Try.func94, Try.ntmps94
  go_wp2_with fail
  go_loopw [5, 6] (fun v i wr => ∃ k : Nat, k ≤ s.n ∧ i = .int .i64 k ∧ Sl 3 .i64 wr v (F k) ∧ (∀ b ∈ sb v, w.heap.size ≤ b) ∧ Gr w wr) (fun _ i _ => s.n - (intOf i).toNat)
  case atStart => exact ⟨0, by omega, rfl, by rw [HF.out.2.2]; exact Sl.nil _ _ _, by simp [sb], Gr.refl w⟩
  case round =>
    obtain ⟨k, hk, rfl, hv, hsb, gr⟩ := hrel
    have hle := HF.out.2.1 k
    have C := Lib.hid (C1.out wr gr)
    obtain ⟨c0, c1, c2, cf⟩ := (HL.out.1.gr gr).c3
    by_cases hlt : k < s.n
    · have hd : decide ((k : Int) < (s.n : Int)) = true := by simpa using hlt
      have HS := Lib.hid (HF.out.1 k)
      cases hx : s.lo x
      · rw [hx] at C
        have HS2 := Lib.hid (show F (k + 1) = F k by rw [HS.out, if_neg (by simp [hx])])
        rw [hvl] at c1
        clear hx HS
        go_wp2_with (go_at_call 82; refine (C.out).mono ?_; rintro e w1 ⟨rfl, rfl⟩)
        go_roundw
        case rel => exact ⟨k + 1, by omega, by go_num, by rw [HS2.out]; exact hv, hsb, gr⟩
        case measure => simp [intOf]; omega
      · rw [hx] at C
        obtain ⟨b, off, cp, hvl2, k1, k2, lc, lf⟩ := (HL.out.2.gr gr).at hlt
        rw [hvl2] at c1
        have i1 : (0 : Int) ≤ (k : Int) := by omega
        have i2 : (k : Int) < (s.n : Int) := by omega
        by_cases he : s.lk k = x
        · have HS2 := Lib.hid (show F (k + 1) = F k ++ [(k : Int)] by rw [HS.out, if_pos ⟨hx, he⟩])
          rw [he] at lc
          clear he hx HS
          generalize F k = zs at *
          go_wp2_with (first | (go_at_call 82; refine (C.out).mono ?_; rintro e w1 ⟨rfl, rfl⟩) | (at_builtin; refine wpList_sl1 el22 .i64 (.tmp 30) (.tmp 32) _ _ _ _ _ rfl rfl rfl rfl hv ?_ ?_ ?_))
          · omega
          · omega
          intro v' w' hv' hch hf
          go_wp2_with fail
          go_roundw
          case rel =>
            refine ⟨k + 1, by omega, by go_num, by rw [HS2.out]; exact hv', fun b hb => ?_, gr.chs hch hsb⟩
            rcases hf b hb with h | h
            · exact hsb b h
            · have := gr.size_le; omega
          case measure => simp [intOf]; omega
        · have HS2 := Lib.hid (show F (k + 1) = F k by rw [HS.out, if_neg (fun h => he h.2)])
          have hne : (s.lk k == x) = false := by simpa using he
          clear he hx HS
          go_wp2_with (go_at_call 82; refine (C.out).mono ?_; rintro e w1 ⟨rfl, rfl⟩)
          go_roundw
          case rel => exact ⟨k + 1, by omega, by go_num, by rw [HS2.out]; exact hv, hsb, gr⟩
          case measure => simp [intOf]; omega
    · have hks : s.n = k := by omega
      have hd : decide ((k : Int) < (s.n : Int)) = false := by simp; omega
      have HS := Lib.hid (show F s.n = F k by rw [hks])
      rw [hvl] at c1
      clear hks
      go_wp2_with fail
      go_ret
      exact ⟨_, rfl, by rw [HS.out]; exact hv, hsb, gr⟩
end
theorem rrow (x : Int) (w : World) : Calls Try.prog 74 #[.int .i64 x] w (NewL w (lst (clampI x 0 64).toNat fun _ => -1)) := by
  obtain ⟨n, hn⟩ := Int.eq_ofNat_of_zero_le (show 0 ≤ clampI x 0 64 by unfold clampI; omega)
  have hn64 : n ≤ 64 := by unfold clampI at hn; omega
  rw [hn, Int.toNat_natCast]
  have HN := Lib.hid hn
  clear hn
  go_enter Try.func74, Try.ntmps74
  go_wp2_with fail
  go_loopw [3, 4] (fun v i wr => ∃ k : Nat, k ≤ n ∧ i = .int .i64 k ∧ Sl 3 .i64 wr v (lst k fun _ => -1) ∧ (∀ b ∈ sb v, w.heap.size ≤ b) ∧ Gr w wr) (fun _ i _ => n - (intOf i).toNat)
  case atStart => exact ⟨0, by omega, rfl, Sl.nil _ _ _, by simp [sb], Gr.refl w⟩
  case round =>
    obtain ⟨k, hk, rfl, hv, hsb, gr⟩ := hrel
    have hle := lst_length k (fun _ => -1)
    by_cases hlt : k < n
    · have hd1 : decide ((k : Int) < 64) = true := by simp; omega
      have hd2 : decide ((k : Int) < x) = true := by have := HN.out; unfold clampI at this; simp; omega
      have HS := Lib.hid (lst_succ k (fun _ => -1))
      generalize (lst k fun _ => -1) = zs at *
      go_wp2_with (at_builtin; refine wpList_sl1 el22 .i64 (.tmp 14) (.tmp 15) _ _ _ _ _ rfl rfl rfl rfl hv ?_ ?_ ?_)
      · omega
      · omega
      intro v' w' hv' hch hf
      go_wp2_with fail
      go_roundw
      case rel =>
        refine ⟨k + 1, by omega, by go_num, by rw [HS.out]; exact hv', fun b hb => ?_, gr.chs hch hsb⟩
        rcases hf b hb with h | h
        · exact hsb b h
        · have := gr.size_le; omega
      case measure => simp [intOf]; omega
    · obtain rfl : n = k := by omega
      by_cases h64 : n < 64
      · have hd1 : decide ((n : Int) < 64) = true := by simp; omega
        have hd2 : decide ((n : Int) < x) = false := by have := HN.out; unfold clampI at this; simp; omega
        go_wp2_with fail
        go_ret
        exact ⟨_, rfl, hv, hsb, gr⟩
      · have hd1 : decide ((n : Int) < 64) = false := by simp; omega
        go_wp2_with fail
        go_ret
        exact ⟨_, rfl, hv, hsb, gr⟩
def RefNew (w : World) (n m : Nat) (e : Ending) (w' : World) : Prop := ∃ h vo vl vj, e = .returned (.pointer (some ⟨h, 0, none⟩)) ∧ RefAt w' h vo vl vj (webS0 n m) ∧ Gr w w' ∧ ∀ k ∈ h :: rows3 vo vl vj, w.heap.size ≤ k
theorem rnew (x y : Int) (w : World) : Calls Try.prog 21 #[.int .i64 x, .int .i64 y] w (RefNew w (clampI x 0 64).toNat (clampI y 0 64).toNat) := by
  have C1 := Lib.hid (fun w => rrow y w)
  have C2 := Lib.hid (fun w => rrow x w)
  have hn64 : (clampI x 0 64).toNat ≤ 64 := by unfold clampI; omega
  have hm64 : (clampI y 0 64).toNat ≤ 64 := by unfold clampI; omega
  generalize (clampI x 0 64).toNat = n at *
  generalize (clampI y 0 64).toNat = m at *
  go_enter Try.func21, Try.ntmps21
  go_wp2_with fail
  with_reducible refine (C1.out _).mono ?_
  rintro e w1 ⟨vo, rfl, so, bo, g1⟩
  go_wp2_with fail
  with_reducible refine (C2.out _).mono ?_
  rintro e w2 ⟨vl, rfl, sl, bl, g2⟩
  go_wp2_with fail
  with_reducible refine (C2.out _).mono ?_
  rintro e w3 ⟨vj, rfl, sj, bj, g3⟩
  obtain ⟨ao, co, rfl, _, _⟩ := so.hd
  obtain ⟨al, cl, rfl, _, _⟩ := sl.hd
  obtain ⟨aj, cj, rfl, _, _⟩ := sj.hd
  go_wp2_with fail
  go_ret
  have g4 : Gr w3 (w3.alloc (.cells #[.slice ao m co, .slice al n cl, .slice aj n cj] 44)) := (Gr.refl w3).al _
  have s1 := g1.size_le
  have s2 := g2.size_le
  have s3 := g3.size_le
  refine ⟨w3.heap.size, _, _, _, rfl, ⟨Blk.new w3 44 _, ((so.gr g2).gr g3).gr g4, (sl.gr g3).gr g4, sj.gr g4, ?_, ?_, ?_, ⟨hn64, hm64, fun i => ⟨Int.le_refl _, show (-1 : Int) < (n : Int) by omega⟩, fun i => ⟨Int.le_refl _, show (-1 : Int) < (m : Int) by omega⟩, fun i => ⟨Int.le_refl _, show (-1 : Int) < (n : Int) by omega⟩⟩⟩, ((g1.tr g2).tr g3).tr g4, ?_⟩
  · intro k hk hk2
    have := so.inn k hk
    have := bl k hk2
    omega
  · intro k hk hk2
    have := so.inn k hk
    have := bj k hk2
    omega
  · intro k hk hk2
    have := sl.inn k hk
    have := bj k hk2
    omega
  · intro k hk
    simp only [List.mem_cons, rows3, List.mem_append] at hk
    rcases hk with rfl | hk | hk | hk
    · omega
    · exact bo k hk
    · have := bl k hk; omega
    · have := bj k hk; omega
end Go.Proofs.Ytkkobbomipcpoaa
