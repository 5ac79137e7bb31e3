/- Chapter 29 (book): the book and the document's book, side by side: one act of both, and one place of both. -/
import Derived.Test.YtkkobbomipcpoaaBk8
namespace Go.Proofs.Ytkkobbomipcpoaa
open Go.RowKit TagP
set_option linter.unusedVariables false
set_option maxHeartbeats 1000000

theorem quietS {P : Program} {f : FuncId} {args : Array Value} {w : World} {n : Nat} {v : Value} (h : Calls P f args (w.drewN n) fun e w' => e = .returned v ∧ w.drewN n = w') : Calls P f args (w.drewN n) fun e w'' => e = .returned v ∧ ∃ m, w'' = w.drewN m :=
  h.mono fun _ _ ⟨h1, h2⟩ => ⟨h1, n, h2.symm⟩
/-- Both tell the same. -/
structure Both (w : World) (g h r : Nat) (of : Nat → Int) (s : BS) : Prop where
  l : BookAt w g h s
  d : DocAt w r of s
  fi : Fine s
  wd : Words s.f
  rg : r ≠ g
  rh : r ≠ h
section
variable {w w' w'' : World} {g h r : Nat} {of of' : Nat → Int} {s s' : BS}
theorem Both.gr (b : Both w g h r of s) (k : Gr w w') : Both w' g h r of s := ⟨b.l.gr k, b.d.gr k, b.fi, b.wd, b.rg, b.rh⟩
theorem Both.drew (b : Both w g h r of s) : Both w.drew g h r of s := b.gr ((Gr.refl w).drew)
theorem Both.step (b : Both w g h r of s) (k1 : Ch [g, h] w w') (l : BookAt w' g h s') (k2 : Ch [r] w' w'') (d : DocAt w'' r of' s') (fi : Fine s') (wd : Words s'.f) : Both w'' g h r of' s' :=
  ⟨l.ch k2 (by simpa using b.rg.symm) (by simpa using b.rh.symm), d, fi, wd, b.rg, b.rh⟩
theorem Both.doc (b : Both w g h r of s) (k1 : Ch [g, h] w w') : DocAt w' r of s := b.d.ch k1 (by simp; exact ⟨b.rg, b.rh⟩)
theorem Both.book (b : Both w g h r of s) (k2 : Ch [r] w w') : BookAt w' g h s := b.l.ch k2 (by simpa using b.rg.symm) (by simpa using b.rh.symm)
end
theorem Fine.drop {s : BS} (fi : Fine s) (x : Int) : Fine (dropS s x) := by unfold dropS; split <;> exact ⟨fi.hm, fi.sc⟩
theorem Fine.mark {s : BS} (fi : Fine s) (x : Int) : Fine (markS s x) := by unfold markS; split <;> exact ⟨fi.hm, fi.sc⟩
theorem Fine.home {s : BS} (fi : Fine s) (x cpu : Int) : Fine (homeS s x cpu) := by
  unfold homeS
  split
  · rename_i hc
    have hc' : 0 ≤ cpu ∧ cpu < s.c := by simp only [Bool.and_eq_true] at hc; have := hc.2; unfold cpuB at this; simpa using this
    refine ⟨fun j => ?_, fi.sc⟩
    show 0 ≤ upd s.hm x.toNat cpu j ∧ upd s.hm x.toNat cpu j < s.c
    unfold upd; split
    · exact hc'
    · exact fi.hm j
  · exact fi
theorem Words.drop {s : BS} (wd : Words s.f) (x : Int) : Words (dropS s x).f := by
  unfold dropS
  split
  · intro i
    show setF s.f x.toNat 0 i = 0 ∨ ∃ st : Int, _ ∧ _ ∧ setF s.f x.toNat 0 i = _
    unfold setF
    split
    · exact .inl rfl
    · exact wd i
  · exact wd
theorem Words.mark {s : BS} (wd : Words s.f) (x : Int) : Words (markS s x).f := by unfold markS; split <;> exact wd
theorem Words.home {s : BS} (wd : Words s.f) (x cpu : Int) : Words (homeS s x cpu).f := by unfold homeS; split <;> exact wd
theorem Words.pl {s : BS} (wd : Words s.f) (i : Nat) (cpu level now : Int) (anew : Bool) (h0 : 0 ≤ s.last) (h1 : s.last < 72057594037927935) : Words (plS s i cpu level now anew).f := by
  intro j
  show setF s.f i ((s.last + 1) * 256 + i) j = 0 ∨ ∃ st : Int, _ ∧ _ ∧ setF s.f i ((s.last + 1) * 256 + i) j = _
  unfold setF
  split
  · rename_i hj; subst hj; exact .inr ⟨s.last + 1, by omega, by omega, rfl⟩
  · exact wd j
theorem drop_last (s : BS) (x : Int) : (dropS s x).last = s.last := by unfold dropS; split <;> rfl
theorem mark_last (s : BS) (x : Int) : (markS s x).last = s.last := by unfold markS; split <;> rfl
theorem home_last (s : BS) (x c : Int) : (homeS s x c).last = s.last := by unfold homeS; split <;> rfl

def DoesEnd (g h r : Nat) (s : BS) (w : World) (e : Ending) (w' : World) : Prop := e = .returned (.bool true) ∧ ∃ of' s', Both w' g h r of' s' ∧ s'.last ≤ s.last + 1 ∧ Ch [g, h, r] w w'
theorem does_mk {g h r : Nat} {of of' : Nat → Int} {s s' : BS} {w W w1 w2 w3 : World} (hW : Gr w W) (b : Both W g h r of s) (k1 : Ch [g, h] W w1) (l : BookAt w1 g h s') (k2 : Ch [r] w1 w2) (d : DocAt w2 r of' s') (fi : Fine s') (wd : Words s'.f) (hl : s'.last ≤ s.last + 1) (g3 : Gr w2 w3) : DoesEnd g h r s w (.returned (.bool true)) w3 :=
  ⟨rfl, of', s', (b.step k1 l k2 d fi wd).gr g3, hl, ((hW.ch _).tr (((k1.wide (T := [g, h, r]) (by simp +contextual)).tr k2 (by simp))) (by simp)).more g3⟩
theorem does_mk2 {g h r : Nat} {of of' : Nat → Int} {s s' : BS} {w W w1 w2 : World} (hW : Gr w W) (b : Both W g h r of s) (k1 : Ch [r] W w1) (d : DocAt w1 r of' s') (k2 : Ch [g, h] w1 w2) (l : BookAt w2 g h s') (fi : Fine s') (wd : Words s'.f) (hl : s'.last ≤ s.last + 1) : DoesEnd g h r s w (.returned (.bool true)) w2 :=
  ⟨rfl, of', s', ⟨l, d.ch k2 (by simp; exact ⟨b.rg, b.rh⟩), fi, wd, b.rg, b.rh⟩, hl, (hW.ch _).tr (((k1.wide (T := [g, h, r]) (by simp +contextual)).tr k2 (by simp +contextual))) (by simp)⟩

set_option maxRecDepth 100000 in
set_option maxHeartbeats 4000000 in
theorem does29 (g h r : Nat) (of : Nat → Int) (s : BS) (w : World) (k slot cpu level now : Int) (anew : Bool) (B : Both w g h r of s) (hk : 0 ≤ k ∧ k ≤ 255) (hn : 0 ≤ now ∧ now ≤ 18446744073709551615) (hl : s.last < 72057594037927935) :
    Calls Try.prog 53 #[.pointer (some ⟨g, 0, none⟩), .pointer (some ⟨r, 0, none⟩), .agg #[.int .u8 k, .int .i64 slot, .int .i64 cpu, .int .i64 level, .int .u64 now, .bool anew]] w (DoesEnd g h r s w) := by
  have hX := Blk.new w 73 #[.int .u8 k, .int .i64 slot, .int .i64 cpu, .int .i64 level, .int .u64 now, .bool anew]
  have hg1 : Gr w (w.alloc (.cells #[.int .u8 k, .int .i64 slot, .int .i64 cpu, .int .i64 level, .int .u64 now, .bool anew] 73)) := (Gr.refl w).al _
  have hgX : g ≠ w.heap.size ∧ h ≠ w.heap.size ∧ r ≠ w.heap.size := by have := B.l.hdr.lt; have := B.l.tag.lt; have := B.d.hdr.lt; omega
  have hn1 : placeB slot = true → ∃ i : Nat, slot = i ∧ i < 64 := fun h => by
    have := (place_iff slot).1 h
    obtain ⟨i, rfl⟩ := Int.eq_ofNat_of_zero_le this.1
    exact ⟨i, rfl, by omega⟩
  replace B := B.gr hg1
  go_enter Try.func53, Try.ntmps53
  go_upto_region 1 with fail
  generalize w.alloc (.cells #[.int .u8 k, .int .i64 slot, .int .i64 cpu, .int .i64 level, .int .u64 now, .bool anew] 73) = W at *
  generalize w.heap.size = X at *
  have hcell : ∀ w', Blk w' X 73 #[.int .u8 k, .int .i64 slot, .int .i64 cpu, .int .i64 level, .int .u64 now, .bool anew] → w'.cell? ⟨X, 0, none⟩ = some (.int .u8 k) ∧ w'.cell? ⟨X, 1, none⟩ = some (.int .i64 slot) ∧ w'.cell? ⟨X, 2, none⟩ = some (.int .i64 cpu) ∧ w'.cell? ⟨X, 3, none⟩ = some (.int .i64 level) ∧ w'.cell? ⟨X, 4, none⟩ = some (.int .u64 now) ∧ w'.cell? ⟨X, 5, none⟩ = some (.bool anew) :=
    fun w' b => ⟨b.cell 0, b.cell 1, b.cell 2, b.cell 3, b.cell 4, b.cell 5⟩
  obtain ⟨a0, a1, a2, a3, a4, a5⟩ := hcell W hX
  have HG := Lib.hid hg1
  have HB := Lib.hid B
  have HX := Lib.hid (And.intro hX hgX)
  have HC := Lib.hid hcell
  have HN := Lib.hid hn1
  clear hX hgX hg1 hcell hn1 B
  have hk6 : k % 6 = 3 ∨ k % 6 = 4 ∨ k % 6 = 5 ∨ (k % 6 ≠ 3 ∧ k % 6 ≠ 4 ∧ k % 6 ≠ 5) := by omega
  rcases hk6 with hk6 | hk6 | hk6 | hk6
  · have B0 := Lib.hid HB.out.drew
    have C1 := Lib.hid (bdrop g h s slot W.drew B0.out.l)
    have C2 := Lib.hid (fun w' (c : Ch [g, h] W.drew w') => ddrop r of s slot w' (B0.out.doc c))
    generalize stB s.f slot = q at *
    have hq : (q == q) = true := by simp
    go_wp2_with fail
    go_region_held3 (fun w' => w'.cell? ⟨X, 1, none⟩ = some (.int .i64 slot))
      (first | exact a1 | exact (HC.out _ ((HX.out.1.drew.ch k2 (by have := HX.out.2; simp; omega)).ch k3 (by have := HX.out.2; simp; omega))).2.1 | exact (HC.out _ (HX.out.1.drew.ch k2 (by have := HX.out.2; simp; omega))).2.1)
      (first
      | (go_at_call 47; refine (C1.out).mono ?_; rintro e w2 ⟨rfl, l2, k2⟩)
      | (go_at_call 106; refine (C2.out _ k2).mono ?_; rintro e w3 ⟨rfl, d3, k3⟩))
    all_goals
      go_wp2_with fail
      go_ret
      exact does_mk HG.out.drew B0.out k2 l2 k3 d3 (B0.out.fi.drop _) (B0.out.wd.drop _) (by rw [drop_last]; omega) (Gr.refl _)
  · by_cases hp : placeB slot = true
    · obtain ⟨i, rfl, hi⟩ := HN.out hp
      have HS : Hid (∀ w' b, (placeB (i : Int) && cpuB s.c cpu) = b → BookAt w' g h s → Calls Try.prog 61 #[.pointer (some ⟨g, 0, none⟩), .int .i64 i, .int .i64 cpu] w' fun e w'' => e = .returned (.bool b) ∧ BookAt w'' g h (homeS s i cpu) ∧ Ch [g, h] w' w'') := Lib.hid (fun w' b e l => e ▸ bsethome g h s i w' l cpu)
      have CI := Lib.hid (fun w => dis i w)
      rw [hp] at CI
      have c0 := HB.out.d.head
      have i0 : (0 : Int) ≤ (i : Int) := by omega
      have i1 : (i : Int) < 64 := by omega
      have HQ := Lib.hid hp
      clear hp
      by_cases hc : cpuB s.c cpu = true
      · have hcc : 0 ≤ cpu ∧ cpu < s.c := by unfold cpuB at hc; simpa using hc
        have HS' := Lib.hid (fun w' l => HS.out w' true (by rw [HQ.out, hc]; rfl) l)
        have HE := Lib.hid (show homeS s i cpu = { s with hm := upd s.hm i cpu } by unfold homeS; rw [HQ.out, hc]; rfl)
        have d1 : decide (0 ≤ cpu) = true := by simpa using hcc.1
        have d2 : decide (cpu < s.c) = true := by simpa using hcc.2
        clear hc HS hcc
        generalize s.c = c at c0 d2
        go_upto_region 5 with fail
        go_quiet ((go_at_call 107; exact quietS (CI.out _)))
        have B0 := Lib.hid (HB.out.gr ((Gr.refl W).drewN nq))
        have X0 := Lib.hid (HX.out.1.drewN nq)
        have G0 := Lib.hid (HG.out.drewN nq)
        clear a0 a1 a2 a3 a4 a5 c0
        obtain ⟨a0, a1, a2, a3, a4, a5⟩ := HC.out _ X0.out
        obtain ⟨c0, c1, c2, c3, c4, c5, cf⟩ := B0.out.d.one hi
        generalize W.drewN nq = W0 at *
        generalize oneR s i 2 = z at *
        go_upto_region 7 with fail
        go_region_law (fail)
        all_goals
          have D1 := B0.out.d.stH i cpu
          have K1 : Ch [r] W0 (W0.setCell ⟨r, 66 + i * 6 + 2, none⟩ (.int .i64 cpu)) := (Ch.refl _ _).st (by simp) _
          have X1 := X0.out.ch K1 (by have := HX.out.2; simp; omega)
          have L1 := B0.out.book K1
          have D1 := D1.drew
          have K1 := K1.drew
          have X1 := X1.drew
          have L1 := L1.gr ((Gr.refl _).drew)
          have HK := Lib.hid (And.intro D1 (And.intro K1 (And.intro X1 L1)))
          clear D1 K1 X1 L1 a0 a1 a2 a3 a4 a5 c0 c1 c2 c3 c4 c5 cf
          obtain ⟨a0, a1, a2, a3, a4, a5⟩ := HC.out _ HK.out.2.2.1
          generalize (W0.setCell ⟨r, 66 + i * 6 + 2, none⟩ (.int .i64 cpu)).drew = W2 at *
          go_wp2_with (go_at_call 61; refine (HS'.out _ HK.out.2.2.2).mono ?_; rintro e w3 ⟨rfl, l3, k3⟩)
          go_ret
          rw [HE.out] at l3
          exact does_mk2 G0.out B0.out HK.out.2.1 HK.out.1 k3 l3 (by have := B0.out.fi.home i cpu; rw [HE.out] at this; exact this) (by have := B0.out.wd.home i cpu; rw [HE.out] at this; exact this) (by show s.last ≤ s.last + 1; omega)
      · have hc : cpuB s.c cpu = false := by simpa using hc
        have HS' := Lib.hid (fun w' l => HS.out w' false (by rw [HQ.out, hc]; rfl) l)
        have HE := Lib.hid (show homeS s i cpu = s by unfold homeS; rw [HQ.out, hc]; rfl)
        have hcc : cpu < 0 ∨ (0 ≤ cpu ∧ s.c ≤ cpu) := by unfold cpuB at hc; simp at hc; omega
        clear hc HS
        rcases hcc with hcc | ⟨hc1, hc2⟩
        · have d1 : decide (0 ≤ cpu) = false := by simp; omega
          go_upto_region 5 with fail
          go_quiet ((go_at_call 107; exact quietS (CI.out _)))
          have B0 := Lib.hid (HB.out.gr ((Gr.refl W).drewN nq))
          have X0 := Lib.hid (HX.out.1.drewN nq)
          have G0 := Lib.hid (HG.out.drewN nq)
          clear a0 a1 a2 a3 a4 a5 c0
          obtain ⟨a0, a1, a2, a3, a4, a5⟩ := HC.out _ X0.out
          generalize W.drewN nq = W0 at *
          go_wp2_with (go_at_call 61; refine (HS'.out _ B0.out.l).mono ?_; rintro e w2 ⟨rfl, l2, k2⟩)
          go_ret
          rw [HE.out] at l2
          exact does_mk G0.out B0.out k2 l2 (Ch.refl _ _) (B0.out.doc k2) B0.out.fi B0.out.wd (by omega) (Gr.refl _)
        · have d1 : decide (0 ≤ cpu) = true := by simp; omega
          have d2 : decide (cpu < s.c) = false := by simp; omega
          generalize s.c = c at c0 d2
          go_upto_region 5 with fail
          go_quiet ((go_at_call 107; exact quietS (CI.out _)))
          have B0 := Lib.hid (HB.out.gr ((Gr.refl W).drewN nq))
          have X0 := Lib.hid (HX.out.1.drewN nq)
          have G0 := Lib.hid (HG.out.drewN nq)
          clear a0 a1 a2 a3 a4 a5 c0
          obtain ⟨a0, a1, a2, a3, a4, a5⟩ := HC.out _ X0.out
          generalize W.drewN nq = W0 at *
          go_wp2_with (go_at_call 61; refine (HS'.out _ B0.out.l).mono ?_; rintro e w2 ⟨rfl, l2, k2⟩)
          go_ret
          rw [HE.out] at l2
          exact does_mk G0.out B0.out k2 l2 (Ch.refl _ _) (B0.out.doc k2) B0.out.fi B0.out.wd (by omega) (Gr.refl _)
    · have hp : placeB slot = false := by simpa using hp
      have HS : Hid (∀ w', BookAt w' g h s → Calls Try.prog 61 #[.pointer (some ⟨g, 0, none⟩), .int .i64 slot, .int .i64 cpu] w' fun e w'' => e = .returned (.bool false) ∧ BookAt w'' g h s ∧ Ch [g, h] w' w'') := Lib.hid (fun w' l => by
        have := bsethome g h s slot w' l cpu
        rw [hp, show homeS s slot cpu = s by unfold homeS; rw [hp]; rfl] at this
        exact this)
      have CI := Lib.hid (fun w => dis slot w)
      rw [hp] at CI
      clear hp
      go_upto_region 5 with fail
      go_quiet ((go_at_call 107; exact quietS (CI.out _)))
      have B0 := Lib.hid (HB.out.gr ((Gr.refl W).drewN nq))
      have X0 := Lib.hid (HX.out.1.drewN nq)
      have G0 := Lib.hid (HG.out.drewN nq)
      clear a0 a1 a2 a3 a4 a5
      obtain ⟨a0, a1, a2, a3, a4, a5⟩ := HC.out _ X0.out
      generalize W.drewN nq = W0 at *
      go_wp2_with (go_at_call 61; refine (HS.out _ B0.out.l).mono ?_; rintro e w2 ⟨rfl, l2, k2⟩)
      go_ret
      exact does_mk G0.out B0.out k2 l2 (Ch.refl _ _) (B0.out.doc k2) B0.out.fi B0.out.wd (by omega) (Gr.refl _)
  · by_cases hp : placeB slot = true
    · obtain ⟨i, rfl, hi⟩ := HN.out hp
      have CI := Lib.hid (fun w => dis i w)
      rw [hp] at CI
      obtain ⟨c0, c1, c2, c3, c4, c5, cf⟩ := HB.out.d.one hi
      have i0 : (0 : Int) ≤ (i : Int) := by omega
      have i1 : (i : Int) < 64 := by omega
      have hsb : stB s.f (i : Int) = decide (s.f i ≠ 0) := by unfold stB; rw [hp, Int.toNat_natCast]; simp
      have HS : Hid (∀ w', BookAt w' g h s → Calls Try.prog 65 #[.pointer (some ⟨g, 0, none⟩), .int .i64 i] w' fun e w'' => e = .returned (.bool (decide (s.f i ≠ 0))) ∧ BookAt w'' g h (markS s i) ∧ Ch [g, h] w' w'') := Lib.hid (fun w' l => hsb ▸ bmark g h s i w' l)
      simp only [oneR] at c0
      clear c1 c2 c3 c4 c5 hp
      by_cases hf : s.f i = 0
      · have HE := Lib.hid (show markS s i = s by unfold markS; rw [hsb, if_neg (by simpa using hf)])
        rw [show decide (s.f i ≠ 0) = false by simpa using hf] at c0 HS
        clear hsb hf
        go_upto_region 10 with fail
        go_quiet ((go_at_call 107; exact quietS (CI.out _)))
        have B0 := Lib.hid (HB.out.gr ((Gr.refl W).drewN nq))
        have X0 := Lib.hid (HX.out.1.drewN nq)
        have G0 := Lib.hid (HG.out.drewN nq)
        clear a0 a1 a2 a3 a4 a5
        obtain ⟨a0, a1, a2, a3, a4, a5⟩ := HC.out _ X0.out
        generalize W.drewN nq = W0 at *
        clear c0
        go_wp2_with (go_at_call 65; refine (HS.out _ B0.out.l).mono ?_; rintro e w2 ⟨rfl, l2, k2⟩)
        go_ret
        rw [HE.out] at l2
        exact does_mk G0.out B0.out k2 l2 (Ch.refl _ _) (B0.out.doc k2) B0.out.fi B0.out.wd (by omega) (Gr.refl _)
      · have HE := Lib.hid (show markS s i = { s with mv := upd s.mv i true } by unfold markS; rw [hsb, if_pos (by simpa using hf)]; rfl)
        have HF := Lib.hid hf
        rw [show decide (s.f i ≠ 0) = true by simpa using hf] at c0 HS
        clear hsb hf
        go_upto_region 10 with fail
        go_quiet ((go_at_call 107; exact quietS (CI.out _)))
        have B0 := Lib.hid (HB.out.gr ((Gr.refl W).drewN nq))
        have X0 := Lib.hid (HX.out.1.drewN nq)
        have G0 := Lib.hid (HG.out.drewN nq)
        clear a0 a1 a2 a3 a4 a5
        obtain ⟨a0, a1, a2, a3, a4, a5⟩ := HC.out _ X0.out
        generalize W.drewN nq = W0 at *
        clear c0 cf
        obtain ⟨c0, c1, c2, c3, c4, c5, cf⟩ := B0.out.d.one hi
        generalize oneR s i 5 = z at *
        go_upto_region 12 with fail
        go_region_law (fail)
        all_goals
          have D1 := B0.out.d.stM i HF.out
          have K1 : Ch [r] W0 (W0.setCell ⟨r, 66 + i * 6 + 5, none⟩ (.bool true)) := (Ch.refl _ _).st (by simp) _
          have X1 := X0.out.ch K1 (by have := HX.out.2; simp; omega)
          have L1 := B0.out.book K1
          have D1 := D1.drew
          have K1 := K1.drew
          have X1 := X1.drew
          have L1 := L1.gr ((Gr.refl _).drew)
          have HK := Lib.hid (And.intro D1 (And.intro K1 (And.intro X1 L1)))
          clear D1 K1 X1 L1 a0 a1 a2 a3 a4 a5 c0 c1 c2 c3 c4 c5 cf
          obtain ⟨a0, a1, a2, a3, a4, a5⟩ := HC.out _ HK.out.2.2.1
          generalize (W0.setCell ⟨r, 66 + i * 6 + 5, none⟩ (.bool true)).drew = W2 at *
          go_wp2_with (go_at_call 65; refine (HS.out _ HK.out.2.2.2).mono ?_; rintro e w3 ⟨rfl, l3, k3⟩)
          go_ret
          rw [HE.out] at l3
          exact does_mk2 G0.out B0.out HK.out.2.1 HK.out.1 k3 l3 (by have := B0.out.fi.mark i; rw [HE.out] at this; exact this) (by have := B0.out.wd.mark i; rw [HE.out] at this; exact this) (by show s.last ≤ s.last + 1; omega)
    · have hp : placeB slot = false := by simpa using hp
      have HS : Hid (∀ w', BookAt w' g h s → Calls Try.prog 65 #[.pointer (some ⟨g, 0, none⟩), .int .i64 slot] w' fun e w'' => e = .returned (.bool false) ∧ BookAt w'' g h s ∧ Ch [g, h] w' w'') := Lib.hid (fun w' l => by
        have := bmark g h s slot w' l
        rw [stB_placeF hp, show markS s slot = s by unfold markS; rw [stB_placeF hp]; rfl] at this
        exact this)
      have CI := Lib.hid (fun w => dis slot w)
      rw [hp] at CI
      clear hp
      go_upto_region 10 with fail
      go_quiet ((go_at_call 107; exact quietS (CI.out _)))
      have B0 := Lib.hid (HB.out.gr ((Gr.refl W).drewN nq))
      have X0 := Lib.hid (HX.out.1.drewN nq)
      have G0 := Lib.hid (HG.out.drewN nq)
      clear a0 a1 a2 a3 a4 a5
      obtain ⟨a0, a1, a2, a3, a4, a5⟩ := HC.out _ X0.out
      generalize W.drewN nq = W0 at *
      go_wp2_with (go_at_call 65; refine (HS.out _ B0.out.l).mono ?_; rintro e w2 ⟨rfl, l2, k2⟩)
      go_ret
      exact does_mk G0.out B0.out k2 l2 (Ch.refl _ _) (B0.out.doc k2) B0.out.fi B0.out.wd (by omega) (Gr.refl _)
  · obtain ⟨h3, h4, h5⟩ := hk6
    have e3 : (k % 6 == 3) = false := by simpa using h3
    have e4 : (k % 6 == 4) = false := by simpa using h4
    have e5 : (k % 6 == 5) = false := by simpa using h5
    clear h3 h4 h5
    by_cases hok : (placeB slot && cpuB s.c cpu) = true
    · have hok' := hok
      simp only [Bool.and_eq_true] at hok'
      obtain ⟨i, rfl, hi⟩ := HN.out hok'.1
      have C1 := Lib.hid (bplace_yes g h s i cpu level now anew W HB.out.l hi hok'.2 hl)
      have C2 := Lib.hid (fun w' (c : Ch [g, h] W w') => dplace_yes r of s i cpu level now anew w' (HB.out.doc c) hi hok'.2 hl)
      have HF := Lib.hid (And.intro (HB.out.fi.pl i cpu level now anew hok'.2 hn) (HB.out.wd.pl i cpu level now anew HB.out.l.l0.1 hl))
      have hq0 : 0 < (s.last + 1) * 256 + (i : Int) := by have := HB.out.l.l0; omega
      generalize (s.last + 1) * 256 + (i : Int) = q at *
      have e6 : decide (0 < q) = true := by simpa using hq0
      clear hok hok' hq0 hl
      go_wp2_with (first
        | (go_at_call 48; refine (C1.out).mono ?_; rintro e w1 ⟨rfl, l1, k1⟩; clear a0 a1 a2 a3 a4 a5; obtain ⟨a0, a1, a2, a3, a4, a5⟩ := HC.out _ (HX.out.1.ch k1 (by have := HX.out.2; simp; omega)))
        | (go_at_call 108; refine (C2.out _ k1).mono ?_; rintro e w2 ⟨rfl, d2, k2⟩))
      go_ret
      exact does_mk HG.out HB.out k1 l1 k2 d2 HF.out.1 HF.out.2 (Int.le_refl _) (Gr.refl _)
    · have hok : (placeB slot && cpuB s.c cpu) = false := by simpa using hok
      have C1 := Lib.hid (bplace_no g h s slot cpu level now anew W HB.out.l hok)
      have C2 := Lib.hid (dplace_no r of s slot cpu level now anew W HB.out.d hok)
      clear hok
      go_wp2_with (first
        | (go_at_call 48; refine (C1.out).mono ?_; rintro e w' ⟨rfl, rfl⟩)
        | (go_at_call 108; refine (C2.out).mono ?_; rintro e w' ⟨rfl, rfl⟩))
      go_ret
      exact does_mk HG.out HB.out (Ch.refl _ _) HB.out.l (Ch.refl _ _) HB.out.d HB.out.fi HB.out.wd (by omega) (Gr.refl _)
end Go.Proofs.Ytkkobbomipcpoaa
