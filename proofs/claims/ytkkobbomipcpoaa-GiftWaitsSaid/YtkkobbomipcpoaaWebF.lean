/- Contracts of chapter 24 (web): Chain, Closes, Ring, On. -/
import Derived.Test.YtkkobbomipcpoaaWebW
namespace Go.Proofs.Ytkkobbomipcpoaa
open Go.RowKit
set_option linter.unusedVariables false
set_option maxHeartbeats 1000000
/-- A new slice of numbers is handed back. -/
def NewL (w : World) (zs : List Int) (e : Ending) (w' : World) : Prop := ∃ v, e = .returned v ∧ Sl 3 .i64 w' v zs ∧ (∀ b ∈ sb v, w.heap.size ≤ b) ∧ Gr w w'
def NewChain (w : World) (f : Int → Int) (t : Int) (e : Ending) (w' : World) : Prop := ∃ k, First f t k ∧ NewL w (trail f t k) e w'
def ringI (p : Nat → Bool) (n : Nat) : Int := match (List.range n).find? p with | some i => (i : Int) | none => -1
theorem ringI_yes {p : Nat → Bool} {n k : Nat} (h : ∀ j, j < k → p j = false) (hk : k < n) (hp : p k = true) : ringI p n = k := by
  have : (List.range n).find? p = some k := by
    rw [List.find?_range_eq_some]
    exact ⟨hp, by simpa using hk, fun j hj => by simp [h j hj]⟩
  simp [ringI, this]
theorem ringI_no {p : Nat → Bool} {n : Nat} (h : ∀ j, j < n → p j = false) : ringI p n = -1 := by
  have : (List.range n).find? p = none := by
    rw [List.find?_eq_none]
    intro x hx
    simp [h x (List.mem_range.1 hx)]
  simp [ringI, this]
def onL (lk : Nat → Int) (x : Int) : Nat → List Int
  | 0 => []
  | k + 1 => if lk k = x then onL lk x k ++ [(k : Int)] else onL lk x k
theorem onL_le (lk : Nat → Int) (x : Int) : ∀ k, (onL lk x k).length ≤ k
  | 0 => by simp [onL]
  | k + 1 => by
    have := onL_le lk x k
    unfold onL
    split <;> simp <;> omega
namespace WebS
def closes (s : WebS) (t u : Int) : Bool := s.th t && s.th u && (decide (t = u) || reach s.next s.n u t)
def ring (s : WebS) : Int := ringI (fun i => reach s.next s.n i i) s.n
def on (s : WebS) (x : Int) : List Int := if s.lo x then onL s.lk x s.n else []
end WebS
section
variable (g a b : Nat) (s : WebS) (w : World) (l : WebAt w g a b s)
include l
theorem chain_any (t : Int) : Calls Try.prog 28 #[.pointer (some ⟨g, 0, none⟩), .int .i64 t] w (NewChain w s.next t) := by
  have H : OnC 84 (fun x => #[.int .i64 x, .pointer (some ⟨w.heap.size, 0, none⟩)]) w.heap.size g a b s (fun _ _ => true)
      (fun zs w' => ∃ v, Blk w' w.heap.size 22 #[v] ∧ Sl 3 .i64 w' v zs ∧ (∀ b ∈ sb v, w.heap.size ≤ b) ∧ Gr w w') := by
    refine ⟨?_, ?_, ?_, ?_⟩
    · rintro zs w' ⟨v, h1, h2, h3, h4⟩; exact l.gr h4
    · rintro zs w' w'' ⟨v, h1, h2, h3, h4⟩ g'; exact ⟨v, h1.gr g', h2.gr g', h3, h4.tr g'⟩
    · rintro zs w' M cs p v ⟨u, h1, h2, h3, h4⟩ hM hB
      refine ⟨u, h1.far (p := ⟨M, p, none⟩) (h1.dif hM (by decide)) _, h2.ch ((Ch.refl [M] _).st (p := ⟨M, p, none⟩) (by simp) _) (fun k hk hk' => by simp at hk'; subst hk'; exact h2.ne hM (by decide) hk), h3, h4.st (p := ⟨M, p, none⟩) hB _⟩
    · rintro zs x w' hl ⟨v, h1, h2, h3, h4⟩
      refine (chain1 x _ v zs w' h1 h2 hl).mono ?_
      rintro e w'' ⟨rfl, v', d1, d2, d3, d4⟩
      refine ⟨rfl, ⟨v', d1, d2, fun b hb => ?_, h4.chs d3 (fun x hx => ?_)⟩, fun M cs hM => hM.ch d3 (fun hm => ?_)⟩
      · rcases d4 b hb with h | h
        · exact h3 b h
        · have := h4.size_le; omega
      · rcases List.mem_cons.1 hx with rfl | hx
        · exact Nat.le_refl _
        · exact h3 x hx
      · rcases List.mem_cons.1 hm with rfl | hm
        · exact h1.dif hM (by decide) rfl
        · exact h2.ne hM (by decide) hm
  have C := Lib.hid (walk84 w.heap.size w.heap.size g a b s (w.alloc (.cells #[.slice none 0 0] 22)) t _ _ H (by simp) ⟨_, Blk.new w 22 _, Sl.nil _ _ _, by simp [sb], (Gr.refl w).al _⟩)
  clear H
  go_enter Try.func28, Try.ntmps28
  go_wp2_with (go_at_call 78; refine (C.out).mono ?_; rintro e w1 ⟨k, r, rfl, hno, hon, hend⟩; obtain ⟨hs, rfl, v, h1, h2, h3, h4⟩ | ⟨_, hf, _⟩ := hend; rotate_left; cases hf; obtain ⟨va, vc, rfl, _, _⟩ := h2.len; obtain ⟨c1, c2⟩ := h1.c1; have HR := Lib.hid (And.intro (First.mk hs hno) (And.intro h2 (And.intro h3 h4))); clear hs hno hon h1 h2 h3 h4)
  go_ret
  exact ⟨k, HR.out.1, _, rfl, HR.out.2.1, HR.out.2.2.1, HR.out.2.2.2⟩
theorem ring_any : Calls Try.prog 27 #[.pointer (some ⟨g, 0, none⟩)] w fun e w' => e = .returned (.int .i64 s.ring) ∧ Gr w w' := by
  obtain ⟨c0, c1, cf⟩ := l.hdr.c2
  have hok := l.ok
  have hn64 := hok.n64
  have C : ∀ (t : Nat) (wr : World), t < s.n → Gr w wr → Calls Try.prog 78 #[.pointer (some ⟨g, 0, none⟩), .int .i64 t, .func (.func 83) #[] #[]] wr fun e w' => e = .returned (.bool (reach s.next s.n t t)) ∧ Gr w w' := by
    intro t wr ht gr
    have H : OnC 83 (fun x => #[.int .i64 x]) w.heap.size g a b s (fun _ _ => true) (fun _ w' => Gr w w') := by
      refine ⟨fun _ _ h => l.gr h, fun _ _ _ h h' => h.tr h', fun _ _ M _ p v h _ hB => h.st (p := ⟨M, p, none⟩) hB _, fun _ x w' _ h => (ring1 x w').mono ?_⟩
      rintro e w'' ⟨rfl, rfl⟩
      exact ⟨rfl, h, fun _ _ h => h⟩
    refine (walk83 w.heap.size g a b s wr t _ _ H gr.size_le gr).mono ?_
    rintro e w' ⟨k, r, rfl, hno, hon, ⟨hs, rfl, h⟩ | ⟨_, hf, _⟩⟩
    · rw [(First.mk hs hno).self (WebS.next_bd hok) s.next_neg (show (t : Int) ≠ -1 by omega)]
      refine ⟨?_, h⟩
      congr 2
      rw [decide_eq_decide]
      constructor
      · exact fun h => h.1
      · exact fun h => ⟨h, by rw [h]; omega⟩
    · cases hf
  have HC := Lib.hid C
  have HL := Lib.hid l
  clear C l hok
  go_enter Try.func27, Try.ntmps27
  go_wp2_with fail
  go_loopw [11] (fun v wr => ∃ k : Nat, k ≤ s.n ∧ v = .int .i64 k ∧ (∀ j, j < k → reach s.next s.n (j : Nat) (j : Nat) = false) ∧ Gr w wr) (fun v _ => s.n - (intOf v).toNat)
  case atStart => exact ⟨0, by omega, rfl, fun j hj => absurd hj (by omega), Gr.refl w⟩
  case round =>
    obtain ⟨k, hk, rfl, hno, gr⟩ := hrel
    have HN := Lib.hid hno
    clear hno
    by_cases hlt : k < s.n
    · have hd : decide ((k : Int) < (s.n : Int)) = true := by simpa using hlt
      have C := Lib.hid (HC.out k wr hlt gr)
      cases hr : reach s.next s.n k k
      · rw [hr] at C
        have HR := Lib.hid hr
        clear hr
        go_wp2_with (go_at_call 78; refine (C.out).mono ?_; rintro e w1 ⟨rfl, g1⟩)
        go_roundw
        case rel =>
          refine ⟨k + 1, by omega, by go_num, fun j hj => ?_, g1⟩
          by_cases hjk : j = k
          · rw [hjk]; exact HR.out
          · exact HN.out j (by omega)
        case measure => simp [intOf]; omega
      · rw [hr] at C
        have HR := Lib.hid hr
        clear hr
        go_wp2_with (go_at_call 78; refine (C.out).mono ?_; rintro e w1 ⟨rfl, g1⟩)
        go_ret
        exact ⟨by rw [WebS.ring, ringI_yes HN.out hlt HR.out]; rfl, g1⟩
    · have hks : s.n = k := by omega
      have hd : decide ((k : Int) < (s.n : Int)) = false := by simp; omega
      go_wp2_with fail
      go_ret
      exact ⟨by rw [WebS.ring, ringI_no (fun j hj => HN.out j (by omega))]; rfl, gr⟩
theorem closes_any (t u : Int) : Calls Try.prog 25 #[.pointer (some ⟨g, 0, none⟩), .int .i64 t, .int .i64 u] w fun e w' => e = .returned (.bool (s.closes t u)) ∧ Gr w w' := by
  have hok := l.ok
  have C1 := Lib.hid (fun w' (g' : Gr w w') => th_any g a b s w' (l.gr g') t)
  have C2 := Lib.hid (fun w' (g' : Gr w w') => th_any g a b s w' (l.gr g') u)
  have hg := (Gr.refl w).al (.cells #[.int .i64 t] 3)
  unfold WebS.closes
  cases ht : s.th t
  · rw [ht] at C1
    simp only [Bool.false_and]
    clear ht C2 hok l
    go_enter Try.func25, Try.ntmps25
    go_wp2_with (go_at_call 77; refine (C1.out _ hg).mono ?_; rintro e w1 ⟨rfl, rfl⟩)
    go_ret
    exact ⟨rfl, hg⟩
  · cases hu : s.th u
    · rw [ht] at C1
      rw [hu] at C2
      simp only [Bool.false_and, Bool.and_false]
      clear ht hu hok l
      go_enter Try.func25, Try.ntmps25
      go_wp2_with (first | (go_at_call 77; (with_reducible refine (C1.out _ hg).mono ?_); rintro e w1 ⟨rfl, rfl⟩) | (go_at_call 77; (with_reducible refine (C2.out _ hg).mono ?_); rintro e w1 ⟨rfl, rfl⟩))
      go_ret
      exact ⟨rfl, hg⟩
    · simp only [Bool.true_and]
      have htn : t ≠ -1 := by simp only [WebS.th, decide_eq_true_eq] at ht; omega
      have H : OnC 79 (fun x => #[.int .i64 x, .pointer (some ⟨w.heap.size + 1, 0, none⟩), .pointer (some ⟨w.heap.size, 0, none⟩)]) w.heap.size g a b s (fun zs x => !(decide (t = u) || decide (t ∈ zs) || decide (x = t)))
          (fun zs w' => Blk w' (w.heap.size + 1) 4 #[.bool (decide (t = u) || decide (t ∈ zs))] ∧ Blk w' w.heap.size 3 #[.int .i64 t] ∧ Gr w w') := by
        refine ⟨fun _ _ h => l.gr h.2.2, fun _ _ _ h h' => ⟨h.1.gr h', h.2.1.gr h', h.2.2.tr h'⟩, fun _ _ M _ p v h hM hB => ⟨h.1.far (p := ⟨M, p, none⟩) (h.1.dif hM (by decide)) _, h.2.1.far (p := ⟨M, p, none⟩) (h.2.1.dif hM (by decide)) _, h.2.2.st (p := ⟨M, p, none⟩) hB _⟩, fun zs x w' _ h => (closes1 x t _ _ _ w' h.1 h.2.1).mono ?_⟩
        rintro e w'' ⟨rfl, rfl⟩
        refine ⟨rfl, ⟨?_, h.2.1.far (p := ⟨w.heap.size + 1, 0, none⟩) (h.2.1.dif h.1 (by decide)) _, h.2.2.st (p := ⟨w.heap.size + 1, 0, none⟩) (by simp) _⟩, fun M cs hM => hM.far (p := ⟨w.heap.size + 1, 0, none⟩) (hM.dif h.1 (by decide)) _⟩
        have := h.1.st 0 (.bool (decide (t = u) || decide (t ∈ zs) || decide (x = t)))
        have e1 : (decide (t = u) || decide (t ∈ zs ++ [x])) = (decide (t = u) || decide (t ∈ zs) || decide (x = t)) := by
          rw [Bool.or_assoc]
          congr 1
          rw [Bool.eq_iff_iff]
          simp only [decide_eq_true_eq, Bool.or_eq_true, List.mem_append, List.mem_singleton, @eq_comm _ x t]
        rw [e1]
        exact this
      have C3 : ∀ wa, Blk wa (w.heap.size + 1) 4 #[.bool (decide (t = u))] → Blk wa w.heap.size 3 #[.int .i64 t] → Gr w wa → Calls Try.prog 78 #[.pointer (some ⟨g, 0, none⟩), .int .i64 u, .func (.func 79) #[] #[.pointer (some ⟨w.heap.size + 1, 0, none⟩), .pointer (some ⟨w.heap.size, 0, none⟩)]] wa fun e w' => ∃ r, e = .returned (.bool r) ∧ Blk w' (w.heap.size + 1) 4 #[.bool (decide (t = u) || reach s.next s.n u t)] ∧ Gr w w' := by
        intro wa b1 b2 gr
        refine (walk79 _ _ w.heap.size g a b s wa u _ _ H gr.size_le ⟨by simpa using b1, b2, gr⟩).mono ?_
        rintro e w' ⟨k, r, rfl, hno, hon, ⟨hs, rfl, h⟩ | ⟨hns, hf, rfl, h⟩⟩
        · refine ⟨_, rfl, ?_, h.2.2⟩
          have e1 : (decide (t = u) || reach s.next s.n u t) = (decide (t = u) || decide (t ∈ trail s.next u k)) := by
            by_cases htu : t = u
            · simp [htu]
            · rw [(First.mk hs hno).other (WebS.next_bd hok) s.next_neg htn htu]
          rw [e1]
          exact h.1
        · refine ⟨_, rfl, ?_, h.2.2⟩
          have hm : t = u ∨ t ∈ trail s.next u (k + 1) := by
            rw [trail_succ]
            have hf : (decide (t = u) || decide (t ∈ trail s.next u k) || decide (it s.next u (k + 1) = t)) = true := Eq.mp (Bool.not_eq_false' _) hf
            simp only [Bool.or_eq_true, decide_eq_true_eq] at hf
            rcases hf with (hf | hf) | hf
            · exact .inl hf
            · exact .inr (List.mem_append_left _ hf)
            · exact .inr (by simp [hf])
          have e1 : (decide (t = u) || reach s.next s.n u t) = (decide (t = u) || decide (t ∈ trail s.next u (k + 1))) := by
            by_cases htu : t = u
            · simp [htu]
            · have hm2 : t ∈ trail s.next u (k + 1) := by rcases hm with h | h; exact absurd h htu; exact h
              have : reach s.next s.n u t = true := by
                rw [reach_iff (WebS.next_bd hok) s.next_neg u htn]
                obtain ⟨i, _, hi⟩ := mem_trail.1 hm2
                exact ⟨i, hi⟩
              simp [this, hm2]
          rw [e1]
          exact h.1
      rw [ht] at C1
      rw [hu] at C2
      have b1 : Blk ((w.alloc (.cells #[.int .i64 t] 3)).alloc (.cells #[.bool (decide (t = u))] 4)) (w.heap.size + 1) 4 #[.bool (decide (t = u))] := by
        have := Blk.new (w.alloc (.cells #[.int .i64 t] 3)) 4 #[.bool (decide (t = u))]
        rw [World.size_alloc] at this
        exact this
      have C4 := Lib.hid (C3 _ b1 ((Blk.new w 3 #[.int .i64 t]).al _) (hg.al _))
      have hbe : (t == u) = decide (t = u) := by rw [Bool.eq_iff_iff]; simp
      generalize (decide (t = u) || reach s.next s.n u t) = q at *
      clear C3 H ht hu hok l b1
      go_enter Try.func25, Try.ntmps25
      go_wp2_with (first | (go_at_call 77; (with_reducible refine (C1.out _ hg).mono ?_); rintro e w1 ⟨rfl, rfl⟩) | (go_at_call 77; (with_reducible refine (C2.out _ hg).mono ?_); rintro e w1 ⟨rfl, rfl⟩) | (go_at_call 78; refine (C4.out).mono ?_; rintro e w3 ⟨r, rfl, b3, g3⟩; obtain ⟨d1, d2⟩ := b3.c1))
      go_ret
      exact ⟨rfl, g3⟩
theorem on_any (x : Int) : Calls Try.prog 45 #[.pointer (some ⟨g, 0, none⟩), .int .i64 x] w (NewL w (s.on x)) := by
  have C1 := Lib.hid (lo_any g a b s w l x)
  unfold WebS.on
  cases hx : s.lo x
  · rw [hx] at C1
    rw [if_neg (by simp)]
    clear hx l
    go_enter Try.func45, Try.ntmps45
    go_wp2_with (go_at_call 76; refine (C1.out).mono ?_; rintro e w1 ⟨rfl, rfl⟩)
    go_ret
    exact ⟨_, rfl, Sl.nil _ _ _, by simp [sb], Gr.refl w⟩
  · rw [hx] at C1
    rw [if_pos rfl]
    obtain ⟨c0, c1, cf⟩ := l.hdr.c2
    have hn64 := l.ok.n64
    have HL := Lib.hid l
    clear hx l
    go_enter Try.func45, Try.ntmps45
    go_wp2_with (go_at_call 76; refine (C1.out).mono ?_; rintro e w1 ⟨rfl, rfl⟩)
    go_loopw [5, 17] (fun v i wr => ∃ k : Nat, k ≤ s.n ∧ i = .int .i64 k ∧ Sl 3 .i64 wr v (onL s.lk x k) ∧ (∀ b ∈ sb v, w.heap.size ≤ b) ∧ Gr w wr) (fun _ i _ => s.n - (intOf i).toNat)
    case atStart => exact ⟨0, by omega, rfl, Sl.nil _ _ _, by simp [sb], Gr.refl w⟩
    case round =>
      obtain ⟨k, hk, rfl, hv, hsb, gr⟩ := hrel
      have hle := onL_le s.lk x k
      by_cases hlt : k < s.n
      · have hd : decide ((k : Int) < (s.n : Int)) = true := by simpa using hlt
        obtain ⟨o1, o2, o3⟩ := (HL.out.gr gr).wtsc hlt
        by_cases he : s.lk k = x
        · have HO := Lib.hid (show onL s.lk x (k + 1) = onL s.lk x k ++ [(k : Int)] by rw [onL, if_pos he])
          rw [he] at o1
          clear he
          generalize s.jn k = jk at *
          generalize onL s.lk x k = zs at *
          go_upto_region 8 with fail
          have hv2 := hv.gr ((Gr.refl wr).al (.cells #[.int .i64 x, .int .i64 jk] 100))
          have gr2 := gr.al (.cells #[.int .i64 x, .int .i64 jk] 100)
          generalize wr.alloc (.cells #[.int .i64 x, .int .i64 jk] 100) = W at *
          go_wp2_with (at_builtin; refine wpList_sl1 el22 .i64 (.tmp 26) (.tmp 28) _ _ _ _ _ rfl rfl rfl rfl hv2 ?_ ?_ ?_)
          · omega
          · omega
          intro v' w' hv' hch hf
          go_wp2_with fail
          go_roundw
          case rel =>
            refine ⟨k + 1, by omega, by go_num, by rw [HO.out]; exact hv', fun b hb => ?_, gr2.chs hch hsb⟩
            rcases hf b hb with h | h
            · exact hsb b h
            · have := gr2.size_le; omega
          case measure => simp [intOf]; omega
        · have HO := Lib.hid (show onL s.lk x (k + 1) = onL s.lk x k by rw [onL, if_neg he])
          have hne : (s.lk k == x) = false := by simpa using he
          generalize s.jn k = jk at *
          generalize onL s.lk x k = zs at *
          go_wp2_with fail
          go_roundw
          case rel => exact ⟨k + 1, by omega, by go_num, by rw [HO.out]; exact hv.gr ((Gr.refl wr).al _), hsb, gr.al _⟩
          case measure => simp [intOf]; omega
      · have hks : s.n = k := by omega
        have hd : decide ((k : Int) < (s.n : Int)) = false := by simp; omega
        have HO := Lib.hid (show onL s.lk x s.n = onL s.lk x k by rw [hks])
        clear hks
        go_wp2_with fail
        go_ret
        exact ⟨_, rfl, by rw [HO.out]; exact hv, hsb, gr⟩
end
end Go.Proofs.Ytkkobbomipcpoaa
