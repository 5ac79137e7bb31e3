/- Contracts of the document's roll (chapter 20's reference), for every input. -/
import Derived.Test.YtfppmdnpjihcpaaRoll
import Derived.Test.YtfppmdnpjihcpaaKit5
namespace Go.Proofs.Ytfppmdnpjihcpaa
open Go.RowKit LinesP
set_option linter.unusedVariables false

theorem elB : Elem Try.prog 26 4 (.bool false) 1 1 := ⟨Try.underlying26, by kernel_rfl, rfl, by decide⟩
theorem elG : Elem Try.prog 120 28 (.int .u32 0) 1 4 := ⟨Try.underlying120, by kernel_rfl, rfl, by decide⟩
theorem recs1 (m : Nat) (f : Nat → Value) : recs m 1 (fun i _ => f i) = (tab m f).toArray := by
  unfold recs
  rw [Nat.mul_one]
  congr 1
  exact tab_congr _ _ _ fun i _ => by rw [Nat.div_one]
def tkRow (m : Nat) (tk : Nat → Bool) : Array Value := (tab m fun i => .bool (tk i)).toArray
def gnRow (m : Nat) (gn : Nat → Int) : Array Value := (tab m fun i => .int .u32 (gn i)).toArray
theorem tkRow_set (m : Nat) (tk : Nat → Bool) (i : Nat) (b : Bool) : (tkRow m tk).setIfInBounds i (.bool b) = tkRow m (upd tk i b) := by
  unfold tkRow
  rw [List.setIfInBounds_toArray, tab_set]
  congr 1
  exact tab_congr _ _ _ fun j _ => by unfold upd; split <;> rfl
theorem gnRow_set (m : Nat) (gn : Nat → Int) (i : Nat) (x : Int) : (gnRow m gn).setIfInBounds i (.int .u32 x) = gnRow m (upd gn i x) := by
  unfold gnRow
  rw [List.setIfInBounds_toArray, tab_set]
  congr 1
  exact tab_congr _ _ _ fun j _ => by unfold upd; split <;> rfl

/-- The document's roll: the struct in block g, the rows in blocks a and b. -/
structure DocAt (w : World) (g a b m : Nat) (tk : Nat → Bool) (gn : Nat → Int) : Prop where
  hdr : Blk w g 122 #[.slice (some ⟨a, 0, none⟩) m m, .slice (some ⟨b, 0, none⟩) m m]
  rt : Blk w a 4 (tkRow m tk)
  rg : Blk w b 28 (gnRow m gn)
  ga : g ≠ a
  gb : g ≠ b
  ab : a ≠ b
  le : m ≤ 64
  bd : ∀ i, 0 ≤ gn i ∧ gn i ≤ 4294967295
section
variable {w w' : World} {g a b m : Nat} {tk : Nat → Bool} {gn : Nat → Int} {S : List Nat} (l : DocAt w g a b m tk gn)
include l
theorem DocAt.gr (k : Gr w w') : DocAt w' g a b m tk gn := ⟨l.hdr.gr k, l.rt.gr k, l.rg.gr k, l.ga, l.gb, l.ab, l.le, l.bd⟩
theorem DocAt.ch (k : Ch S w w') (h1 : g ∉ S) (h2 : a ∉ S) (h3 : b ∉ S) : DocAt w' g a b m tk gn := ⟨l.hdr.ch k h1, l.rt.ch k h2, l.rg.ch k h3, l.ga, l.gb, l.ab, l.le, l.bd⟩
theorem DocAt.grown {row : Option Nat} (k : w.grownBy w' row) (h1 : some g ≠ row) (h2 : some a ≠ row) (h3 : some b ≠ row) : DocAt w' g a b m tk gn := ⟨l.hdr.grown k h1, l.rt.grown k h2, l.rg.grown k h3, l.ga, l.gb, l.ab, l.le, l.bd⟩
theorem DocAt.cells {i : Nat} (hi : i < m) : w.cell? ⟨a, i, none⟩ = some (.bool (tk i)) ∧ w.cell? ⟨b, i, none⟩ = some (.int .u32 (gn i)) ∧ (∀ j, w.frozen? ⟨a, j, none⟩ = false) ∧ ∀ j, w.frozen? ⟨b, j, none⟩ = false :=
  ⟨(l.rt.cell _).trans (by simpa [tkRow] using tab_get m (fun i => Value.bool (tk i)) i hi), (l.rg.cell _).trans (by simpa [gnRow] using tab_get m (fun i => Value.int .u32 (gn i)) i hi), l.rt.frozen, l.rg.frozen⟩
theorem DocAt.st_t (i : Nat) (x : Bool) : DocAt (w.setCell ⟨a, i, none⟩ (.bool x)) g a b m (upd tk i x) gn :=
  ⟨l.hdr.far (p := ⟨a, i, none⟩) l.ga _, by have := l.rt.st i (.bool x); rwa [tkRow_set] at this, l.rg.far (p := ⟨a, i, none⟩) (fun h => l.ab h.symm) _, l.ga, l.gb, l.ab, l.le, l.bd⟩
theorem DocAt.st_g (i : Nat) (x : Int) (hx : 0 ≤ x ∧ x ≤ 4294967295) : DocAt (w.setCell ⟨b, i, none⟩ (.int .u32 x)) g a b m tk (upd gn i x) :=
  ⟨l.hdr.far (p := ⟨b, i, none⟩) l.gb _, l.rt.far (p := ⟨b, i, none⟩) l.ab _, by have := l.rg.st i (.int .u32 x); rwa [gnRow_set] at this, l.ga, l.gb, l.ab, l.le, fun j => by
    unfold upd; split
    · exact hx
    · exact l.bd j⟩
end
/-- A new document's roll, whatever the order in which its rows were made. -/
def DocNew (w : World) (e : Ending) (w' : World) (m : Nat) : Prop :=
  ∃ g a b, e = .returned (.pointer (some ⟨g, 0, none⟩)) ∧ DocAt w' g a b m (fun _ => false) (fun _ => 0) ∧ w.heap.size ≤ g ∧ w.heap.size ≤ a ∧ w.heap.size ≤ b ∧ Gr w w'
theorem DocNew.drew {w w' : World} {e : Ending} {m : Nat} (h : DocNew w e w' m) : DocNew w e w'.drew m := by
  obtain ⟨g, a, b, h1, h2, h3, h4, h5, h6⟩ := h
  exact ⟨g, a, b, h1, h2.gr (Gr.refl _).drew, h3, h4, h5, h6.drew⟩
theorem qS {P : Program} {f : FuncId} {args : Array Value} {w : World} {n : Nat} {v : Value} (h : Calls P f args (w.drewN n) fun e w' => e = .returned v ∧ w.drewN n = w') : Calls P f args (w.drewN n) fun e w'' => e = .returned v ∧ ∃ k, w'' = w.drewN k :=
  h.mono fun _ _ ⟨he, hm⟩ => ⟨he, n, hm.symm⟩
theorem docNew1 (w : World) (m : Nat) (hle : m ≤ 64) : DocNew w (.returned (.pointer (some ⟨w.heap.size + 1 + 1, 0, none⟩))) (((w.alloc (.cells (tkRow m fun _ => false) 4)).alloc (.cells (gnRow m fun _ => 0) 28)).alloc (.cells #[.slice (some ⟨w.heap.size, 0, none⟩) m m, .slice (some ⟨w.heap.size + 1, 0, none⟩) m m] 122)) m := by
  refine ⟨_, w.heap.size, w.heap.size + 1, rfl, ⟨?_, ?_, ?_, by omega, by omega, by omega, hle, by simp⟩, by omega, by omega, by omega, (((Gr.refl w).al _).al _).al _⟩
  · have := Blk.new ((w.alloc (.cells (tkRow m fun _ => false) 4)).alloc (.cells (gnRow m fun _ => 0) 28)) 122 #[.slice (some ⟨w.heap.size, 0, none⟩) m m, .slice (some ⟨w.heap.size + 1, 0, none⟩) m m]
    rwa [World.size_alloc, World.size_alloc] at this
  · exact ((Blk.new w 4 _).al _).al _
  · have := (Blk.new (w.alloc (.cells (tkRow m fun _ => false) 4)) 28 (gnRow m fun _ => 0))
    rw [World.size_alloc] at this
    exact this.al _
theorem docNew2 (w : World) (m : Nat) (hle : m ≤ 64) : DocNew w (.returned (.pointer (some ⟨w.heap.size + 1 + 1, 0, none⟩))) (((w.alloc (.cells (gnRow m fun _ => 0) 28)).alloc (.cells (tkRow m fun _ => false) 4)).alloc (.cells #[.slice (some ⟨w.heap.size + 1, 0, none⟩) m m, .slice (some ⟨w.heap.size, 0, none⟩) m m] 122)) m := by
  refine ⟨_, w.heap.size + 1, w.heap.size, rfl, ⟨?_, ?_, ?_, by omega, by omega, by omega, hle, by simp⟩, by omega, by omega, by omega, (((Gr.refl w).al _).al _).al _⟩
  · have := Blk.new ((w.alloc (.cells (gnRow m fun _ => 0) 28)).alloc (.cells (tkRow m fun _ => false) 4)) 122 #[.slice (some ⟨w.heap.size + 1, 0, none⟩) m m, .slice (some ⟨w.heap.size, 0, none⟩) m m]
    rwa [World.size_alloc, World.size_alloc] at this
  · have := (Blk.new (w.alloc (.cells (gnRow m fun _ => 0) 28)) 4 (tkRow m fun _ => false))
    rw [World.size_alloc] at this
    exact this.al _
  · exact ((Blk.new w 28 _).al _).al _

set_option maxRecDepth 100000 in
set_option maxHeartbeats 1000000 in
theorem docNew_any (n : Int) (w : World) : Calls Try.prog 41 #[.int .i64 n] w fun e w' => DocNew w e w' (clampI n 0 64).toNat := by
  obtain ⟨m, hm⟩ := Int.eq_ofNat_of_zero_le (show 0 ≤ clampI n 0 64 by unfold clampI; omega)
  have hle : m ≤ 64 := by unfold clampI at hm; omega
  have hmm : min (max n 0) 64 = (m : Int) := by unfold clampI at hm; omega
  rw [show (clampI n 0 64).toNat = m by rw [hm]; rfl]
  clear hm
  have hmk := run_make_recs elB m (by omega) (by omega)
  rw [show (recs m 1 fun _ k => (Value.bool false).cells[k]!) = tkRow m fun _ => false from
    (recs_congr _ _ _ _ fun i k _ hk => by obtain rfl : k = 0 := (by omega); rfl).trans (recs1 m fun _ => .bool false)] at hmk
  have hmg := run_make_recs elG m (by omega) (by omega)
  rw [show (recs m 1 fun _ k => (Value.int .u32 0).cells[k]!) = gnRow m fun _ => 0 from
    (recs_congr _ _ _ _ fun i k _ hk => by obtain rfl : k = 0 := (by omega); rfl).trans (recs1 m fun _ => .int .u32 0)] at hmg
  have HMM := Lib.hid hmm
  have HK := Lib.hid (And.intro hmk hmg)
  clear hmm hmk hmg
  go_enter Try.func41, Try.ntmps41
  go_upto_region 2 with fail
  rw [show (if 64 < if n < 0 then 0 else n then (64 : Int) else if n < 0 then 0 else n) = (m : Int) by have := HMM.out; split <;> split at * <;> omega]
  obtain ⟨hmk, hmg⟩ := HK.out
  clear HK
  go_region
  all_goals (go_wp2_with fail; all_goals (go_ret; first | exact (docNew1 w m hle).drew | exact (docNew2 w m hle).drew))

section
variable (g a b m : Nat) (tk : Nat → Bool) (gn : Nat → Int) (w : World) (l : DocAt w g a b m tk gn)
include l
theorem is_no (x : Int) (h : ¬ (0 ≤ x ∧ x < m)) : Calls Try.prog 74 #[.pointer (some ⟨g, 0, none⟩), .int .i64 x] w fun e w' => e = .returned (.bool false) ∧ w = w' := by
  obtain ⟨c0, c1, cf⟩ := l.hdr.c2
  by_cases h0 : 0 ≤ x
  · have h1 : decide (x < (m : Int)) = false := by simp; omega
    go_enter Try.func74, Try.ntmps74
    go_wp2
    go_ret
    exact ⟨rfl, rfl⟩
  · have h1 : decide (0 ≤ x) = false := by simpa using h0
    go_enter Try.func74, Try.ntmps74
    go_wp2
    go_ret
    exact ⟨rfl, rfl⟩
theorem is_yes (i : Nat) (hi : i < m) : Calls Try.prog 74 #[.pointer (some ⟨g, 0, none⟩), .int .i64 i] w fun e w' => e = .returned (.bool true) ∧ w = w' := by
  obtain ⟨c0, c1, cf⟩ := l.hdr.c2
  go_enter Try.func74, Try.ntmps74
  go_wp2
  go_ret
  exact ⟨rfl, rfl⟩
theorem dopen_any (i : Nat) (hi : i < m) : Calls Try.prog 73 #[.pointer (some ⟨g, 0, none⟩), .int .i64 i] w fun e w' => e = .returned (.bool (opn tk gn i)) ∧ w = w' := by
  obtain ⟨c0, c1, cf⟩ := l.hdr.c2
  obtain ⟨d0, d1, _, _⟩ := l.cells hi
  have hle := l.le
  unfold opn
  cases ht : tk i
  · rw [ht] at d0
    go_enter Try.func73, Try.ntmps73
    go_wp2
    go_ret
    exact ⟨by simp, rfl⟩
  · rw [ht] at d0
    go_enter Try.func73, Try.ntmps73
    go_wp2
    go_ret
    exact ⟨by simp, rfl⟩
theorem dat_no (x : Int) (h : ¬ (0 ≤ x ∧ x < m) ∨ ∃ i : Nat, x = i ∧ i < m ∧ tk i = false) : Calls Try.prog 47 #[.pointer (some ⟨g, 0, none⟩), .int .i64 x] w fun e w' => e = .returned (.tuple #[idV 0 0, .bool false]) ∧ Gr w w' := by
  have hg1 : Gr w (w.alloc (.cells #[.int .i64 0, .int .u32 0] 30)) := (Gr.refl w).al _
  have hA := Blk.new w 30 #[.int .i64 0, .int .u32 0]
  replace l := l.gr hg1
  go_enter Try.func47, Try.ntmps47
  go_upto_region 1 with fail
  generalize w.alloc (.cells #[.int .i64 0, .int .u32 0] 30) = W at *
  generalize hAe : w.heap.size = A at hA ⊢
  have HA := Lib.hid hAe
  clear hAe
  obtain ⟨a0, a1, af⟩ := hA.c2
  rcases h with h | ⟨i, rfl, hi, ht⟩
  · have C := Lib.hid (is_no g a b m tk gn W l x h)
    clear h
    go_wp2_with (go_at_call 74; refine (C.out).mono ?_; rintro e w3 ⟨rfl, rfl⟩)
    (try simp only [Exit.inBlock, Exit.then])
    exact bodyPost_ret (res30 rfl _ _ _ _ _ rfl (st30 hA 0 0)) rfl ⟨rfl, grst hg1 (by have := HA.out; omega) _ _⟩
  · have C := Lib.hid (is_yes g a b m tk gn W l i hi)
    obtain ⟨c0, c1, cf⟩ := l.hdr.c2
    obtain ⟨d0, d1, _, _⟩ := l.cells hi
    have hle := l.le
    rw [ht] at d0
    go_wp2_with (go_at_call 74; refine (C.out).mono ?_; rintro e w3 ⟨rfl, rfl⟩)
    (try simp only [Exit.inBlock, Exit.then])
    exact bodyPost_ret (res30 rfl _ _ _ _ _ rfl (st30 hA 0 0)) rfl ⟨rfl, grst hg1 (by have := HA.out; omega) _ _⟩
theorem dat_yes (i : Nat) (hi : i < m) (ht : tk i = true) : Calls Try.prog 47 #[.pointer (some ⟨g, 0, none⟩), .int .i64 i] w fun e w' => e = .returned (.tuple #[idV i (gn i), .bool true]) ∧ Gr w w' := by
  have hg1 : Gr w (w.alloc (.cells #[.int .i64 0, .int .u32 0] 30)) := (Gr.refl w).al _
  have hA := Blk.new w 30 #[.int .i64 0, .int .u32 0]
  replace l := l.gr hg1
  go_enter Try.func47, Try.ntmps47
  go_upto_region 1 with fail
  generalize w.alloc (.cells #[.int .i64 0, .int .u32 0] 30) = W at *
  generalize hAe : w.heap.size = A at hA ⊢
  have HA := Lib.hid hAe
  clear hAe
  obtain ⟨a0, a1, af⟩ := hA.c2
  have C := Lib.hid (is_yes g a b m tk gn W l i hi)
  obtain ⟨c0, c1, cf⟩ := l.hdr.c2
  obtain ⟨d0, d1, _, _⟩ := l.cells hi
  have hle := l.le
  rw [ht] at d0
  go_wp2_with (go_at_call 74; refine (C.out).mono ?_; rintro e w3 ⟨rfl, rfl⟩)
  (try simp only [Exit.inBlock, Exit.then])
  exact bodyPost_ret (res30 rfl _ _ _ _ _ rfl (st30 hA i (gn i))) rfl ⟨rfl, grst hg1 (by have := HA.out; omega) _ _⟩

theorem dhas_any (x q : Int) : Calls Try.prog 48 #[.pointer (some ⟨g, 0, none⟩), idV x q] w fun e w' => e = .returned (.bool (hasB m tk gn x q)) ∧ Gr w w' := by
  unfold idV
  have hg1 : Gr w (w.alloc (.cells #[.int .i64 x, .int .u32 q] 30)) := (Gr.refl w).al _
  have hA := Blk.new w 30 #[.int .i64 x, .int .u32 q]
  replace l := l.gr hg1
  by_cases h : 0 ≤ x ∧ x < m
  · obtain ⟨i, rfl⟩ := Int.eq_ofNat_of_zero_le h.1
    have hi : i < m := by omega
    have HB := Lib.hid (show hasB m tk gn i q = (tk i && decide (gn i = q)) by unfold hasB; rw [decide_eq_true (show (0 : Int) ≤ i ∧ (i : Int) < m by omega)]; simp)
    rw [HB.out]
    clear HB h
    go_enter Try.func48, Try.ntmps48
    go_upto_region 1 with fail
    generalize w.alloc (.cells #[.int .i64 i, .int .u32 q] 30) = W at *
    generalize w.heap.size = A at *
    obtain ⟨a0, a1, af⟩ := hA.c2
    have C := Lib.hid (fun n => qS (n := n) (is_yes g a b m tk gn _ (l.gr ((Gr.refl W).drewN n)) i hi))
    obtain ⟨c0, c1, cf⟩ := l.hdr.c2
    obtain ⟨d0, d1, _, _⟩ := l.cells hi
    have hle := l.le
    cases ht : tk i
    · rw [ht] at d0
      go_quiet (first | (go_at_call 74; exact C.out _))
      go_wp2
      go_ret
      exact ⟨by simp [ht], hg1.drewN _⟩
    · rw [ht] at d0
      go_quiet (first | (go_at_call 74; exact C.out _))
      go_wp2
      go_ret
      exact ⟨ret_bool (a := (gn i == q)) (by rw [Bool.eq_iff_iff]; simp [ht]), hg1.drewN _⟩
  · have HB := Lib.hid (show hasB m tk gn x q = false by unfold hasB; rw [decide_eq_false h]; simp)
    rw [HB.out]
    go_enter Try.func48, Try.ntmps48
    go_upto_region 1 with fail
    generalize w.alloc (.cells #[.int .i64 x, .int .u32 q] 30) = W at *
    generalize w.heap.size = A at *
    obtain ⟨a0, a1, af⟩ := hA.c2
    have C := Lib.hid (fun n => qS (n := n) (is_no g a b m tk gn _ (l.gr ((Gr.refl W).drewN n)) x h))
    clear h
    go_quiet (first | (go_at_call 74; exact C.out _))
    go_wp2
    go_ret
    exact ⟨rfl, hg1.drewN _⟩
theorem dfree_no (x q : Int) (hb : hasB m tk gn x q = false) :
    Calls Try.prog 43 #[.pointer (some ⟨g, 0, none⟩), idV x q] w fun e w' => e = .returned (.bool false) ∧ Gr w w' := by
  unfold idV
  have hg1 : Gr w (w.alloc (.cells #[.int .i64 x, .int .u32 q] 30)) := (Gr.refl w).al _
  have C := Lib.hid (dhas_any g a b m tk gn _ (l.gr hg1) x q)
  unfold idV at C
  rw [hb] at C
  go_enter Try.func43, Try.ntmps43
  go_wp2_with (go_at_call 48; refine (C.out).mono ?_; rintro e w2 ⟨rfl, g2⟩)
  go_ret
  exact ⟨rfl, ((Gr.refl w).al _).tr g2⟩
theorem dfree_yes (i : Nat) (q : Int) (hb : hasB m tk gn i q = true) :
    Calls Try.prog 43 #[.pointer (some ⟨g, 0, none⟩), idV i q] w fun e w' => e = .returned (.bool true) ∧ DocAt w' g a b m (upd tk i false) gn ∧ Ch [a] w w' := by
  unfold idV
  have hg1 : Gr w (w.alloc (.cells #[.int .i64 i, .int .u32 q] 30)) := (Gr.refl w).al _
  have hA := Blk.new w 30 #[.int .i64 i, .int .u32 q]
  have C := Lib.hid (dhas_any g a b m tk gn _ (l.gr hg1) i q)
  have hi : i < m := by obtain ⟨j, h1, h2, _⟩ := hasB_iff.1 hb; omega
  unfold idV at C
  rw [hb] at C
  clear hb
  go_enter Try.func43, Try.ntmps43
  go_wp2_with fail
  generalize w.alloc (.cells #[.int .i64 i, .int .u32 q] 30) = W at *
  generalize w.heap.size = A at *
  with_reducible refine (C.out).mono ?_
  rintro e w2 ⟨rfl, g2⟩
  have hA2 := hA.gr g2
  have l2 := (l.gr hg1).gr g2
  have hg2 := hg1.tr g2
  obtain ⟨a0, a1, _⟩ := hA2.c2
  obtain ⟨c0, c1, cf⟩ := l2.hdr.c2
  obtain ⟨d0, d1, df, _⟩ := l2.cells hi
  have hle := l2.le
  go_wp2_with fail
  go_region
  go_wp2
  go_ret
  exact ⟨rfl, (l2.st_t i false).gr ((Gr.refl _).drew), ((hg2.ch [a]).st (by simp) _).drew⟩
theorem djump_no (x q : Int) (h : ¬ (0 ≤ x ∧ x < m) ∨ ∃ i : Nat, x = i ∧ i < m ∧ (tk i = true ∨ q < gn i)) : Calls Try.prog 45 #[.pointer (some ⟨g, 0, none⟩), .int .i64 x, .int .u32 q] w fun e w' => e = .returned (.bool false) ∧ w = w' := by
  rcases h with h | ⟨i, rfl, hi, h⟩
  · have C := Lib.hid (is_no g a b m tk gn w l x h)
    clear h
    go_enter Try.func45, Try.ntmps45
    go_wp2_with (go_at_call 74; refine (C.out).mono ?_; rintro e w3 ⟨rfl, rfl⟩)
    go_ret
    exact ⟨rfl, rfl⟩
  · have C := Lib.hid (is_yes g a b m tk gn w l i hi)
    obtain ⟨c0, c1, cf⟩ := l.hdr.c2
    obtain ⟨d0, d1, _, _⟩ := l.cells hi
    have hle := l.le
    cases ht : tk i
    · have hq : q < gn i := by rw [ht] at h; simpa using h
      rw [ht] at d0
      go_enter Try.func45, Try.ntmps45
      go_wp2_with (go_at_call 74; refine (C.out).mono ?_; rintro e w3 ⟨rfl, rfl⟩)
      go_ret
      exact ⟨rfl, rfl⟩
    · rw [ht] at d0
      go_enter Try.func45, Try.ntmps45
      go_wp2_with (go_at_call 74; refine (C.out).mono ?_; rintro e w3 ⟨rfl, rfl⟩)
      go_ret
      exact ⟨rfl, rfl⟩
theorem djump_yes (i : Nat) (q : Int) (hi : i < m) (ht : tk i = false) (hq : gn i ≤ q) (hq2 : q ≤ 4294967295) : Calls Try.prog 45 #[.pointer (some ⟨g, 0, none⟩), .int .i64 i, .int .u32 q] w fun e w' => e = .returned (.bool true) ∧ DocAt w' g a b m tk (upd gn i q) ∧ Ch [b] w w' := by
  have C := Lib.hid (is_yes g a b m tk gn w l i hi)
  obtain ⟨c0, c1, cf⟩ := l.hdr.c2
  obtain ⟨d0, d1, _, df⟩ := l.cells hi
  have hle := l.le
  have hdq : decide (q < gn i) = false := by simp; omega
  rw [ht] at d0
  go_enter Try.func45, Try.ntmps45
  go_wp2_with (go_at_call 74; refine (C.out).mono ?_; rintro e w3 ⟨rfl, rfl⟩)
  go_ret
  exact ⟨rfl, l.st_g i q (by have := l.bd i; omega), (Ch.refl _ _).st (by simp) _⟩
theorem dtk_none (hb : ∀ j, j < m → opn tk gn j = false) : Calls Try.prog 42 #[.pointer (some ⟨g, 0, none⟩)] w fun e w' => e = .returned (.tuple #[idV 0 0, .bool false]) ∧ Gr w w' := by
  have hg1 : Gr w (w.alloc (.cells #[.int .i64 0, .int .u32 0] 30)) := (Gr.refl w).al _
  have hA := Blk.new w 30 #[.int .i64 0, .int .u32 0]
  replace l := l.gr hg1
  go_enter Try.func42, Try.ntmps42
  go_upto_region 1 with fail
  generalize w.alloc (.cells #[.int .i64 0, .int .u32 0] 30) = W at *
  generalize hAe : w.heap.size = A at hA ⊢
  have HA := Lib.hid hAe
  clear hAe
  obtain ⟨c0, c1, cf⟩ := l.hdr.c2
  obtain ⟨a0, a1, af⟩ := hA.c2
  have hle := l.le
  go_wp2_with fail
  go_loopw [4] (fun v wr => ∃ k : Nat, k ≤ m ∧ v = .int .i64 k ∧ wr = W) (fun v _ => m - (intOf v).toNat)
  case atStart => exact ⟨0, by omega, rfl, rfl⟩
  case round =>
    obtain ⟨k, hk, rfl, rfl⟩ := hrel
    by_cases hlt : k < m
    · have C := Lib.hid (dopen_any g a b m tk gn _ l k hlt)
      rw [hb k hlt] at C
      go_wp2_with (go_at_call 73; refine (C.out).mono ?_; rintro e w2 ⟨rfl, rfl⟩)
      go_roundw
      case rel => exact ⟨k + 1, by omega, by go_num, by first | rfl | trivial⟩
      case measure => simp [intOf]; omega
    · obtain rfl : m = k := by omega
      go_wp2
      (try simp only [Exit.inBlock, Exit.then])
      exact bodyPost_ret (res30 rfl _ _ _ _ _ rfl (st30 hA 0 0)) rfl ⟨rfl, grst hg1 (by have := HA.out; omega) _ _⟩
theorem dtk_some (i : Nat) (hi : i < m) (ho : opn tk gn i = true) (hb : ∀ j, j < i → opn tk gn j = false) :
    Calls Try.prog 42 #[.pointer (some ⟨g, 0, none⟩)] w fun e w' => e = .returned (.tuple #[idV i (gn i + 1), .bool true]) ∧ DocAt w' g a b m (upd tk i true) (upd gn i (gn i + 1)) ∧ Ch [a, b] w w' := by
  have hg1 : Gr w (w.alloc (.cells #[.int .i64 0, .int .u32 0] 30)) := (Gr.refl w).al _
  have hA := Blk.new w 30 #[.int .i64 0, .int .u32 0]
  have hbd := l.bd i
  have hlt1 : gn i < 4294967295 := by simp [opn] at ho; exact ho.2
  have hAg : g < w.heap.size := l.hdr.lt
  have hAa : a < w.heap.size := l.rt.lt
  have hAb : b < w.heap.size := l.rg.lt
  replace l := l.gr hg1
  go_enter Try.func42, Try.ntmps42
  go_upto_region 1 with fail
  generalize w.alloc (.cells #[.int .i64 0, .int .u32 0] 30) = W at *
  generalize hAe : w.heap.size = A at hA hAg hAa hAb ⊢
  have HA := Lib.hid hAe
  clear hAe
  have HL := Lib.hid l
  obtain ⟨c0, c1, cf⟩ := l.hdr.c2
  have hle := l.le
  clear l
  go_wp2_with fail
  go_loopw [4] (fun v wr => ∃ k : Nat, k ≤ i ∧ v = .int .i64 k ∧ wr = W) (fun v _ => i - (intOf v).toNat)
  case atStart => exact ⟨0, by omega, rfl, rfl⟩
  case round =>
    obtain ⟨k, hk, rfl, rfl⟩ := hrel
    by_cases hlt : k < i
    · have C := Lib.hid (dopen_any g a b m tk gn _ HL.out k (by omega))
      rw [hb k hlt] at C
      have hkm : k < m := by omega
      go_wp2_with (go_at_call 73; refine (C.out).mono ?_; rintro e w2 ⟨rfl, rfl⟩)
      go_roundw
      case rel => exact ⟨k + 1, by omega, by go_num, by first | rfl | trivial⟩
      case measure => simp [intOf]; omega
    · obtain rfl : i = k := by omega
      have C := Lib.hid (dopen_any g a b m tk gn _ HL.out i hi)
      rw [ho] at C
      obtain ⟨d0, d1, df, dg⟩ := HL.out.cells hi
      clear ho hb
      go_upto_region 6 with (go_at_call 73; refine (C.out).mono ?_; rintro e w2 ⟨rfl, rfl⟩)
      have l3 := HL.out.st_t i true
      have hA3 := hA.far (p := ⟨a, i, none⟩) (show A ≠ a by omega) (.bool true)
      have k3 : Ch [a, b] wr (wr.setCell ⟨a, i, none⟩ (.bool true)) := (Ch.refl _ _).st (by simp) _
      generalize wr.setCell ⟨a, i, none⟩ (.bool true) = w3 at *
      clear c0 c1 cf d0 d1 df dg HL C
      obtain ⟨c0, c1, cf⟩ := l3.hdr.c2
      obtain ⟨d0, d1, df, dg⟩ := l3.cells hi
      have HS := Lib.hid (l3.st_g i (gn i + 1) (by omega))
      have k4 : Ch [a, b] w3 (w3.setCell ⟨b, i, none⟩ (.int .u32 (gn i + 1))) := (Ch.refl _ _).st (by simp) _
      have hA4 := hA3.far (p := ⟨b, i, none⟩) (show A ≠ b by omega) (.int .u32 (gn i + 1))
      go_upto_region 7 with fail
      have l4 := HS.out
      generalize w3.setCell ⟨b, i, none⟩ (.int .u32 (gn i + 1)) = w4 at *
      clear c0 c1 cf d0 d1 df dg HS
      obtain ⟨c0, c1, cf⟩ := l4.hdr.c2
      obtain ⟨d0, d1, df, dg⟩ := l4.cells hi
      rw [show upd gn i (gn i + 1) i = gn i + 1 by simp [upd]] at d1
      obtain ⟨a0, a1, af⟩ := hA4.c2
      have hAw : w.heap.size ≤ A := by have := HA.out; omega
      go_wp2
      (try simp only [Exit.inBlock, Exit.then])
      refine bodyPost_ret (res30 rfl _ _ _ _ _ rfl (st30 hA4 i (gn i + 1))) rfl ?_
      have k6 : Ch [A] w4 ((w4.setCell ⟨A, 0, none⟩ (.int .i64 i)).setCell ⟨A, 1, none⟩ (.int .u32 (gn i + 1))) := ((Ch.refl _ _).st (by simp) _).st (by simp) _
      exact ⟨rfl, l4.ch k6 (by simp; omega) (by simp; omega) (by simp; omega), (((hg1.ch [a, b]).tr k3 (by simp)).tr k4 (by simp)).tr k6 (by simp; omega)⟩
end
end Go.Proofs.Ytfppmdnpjihcpaa
