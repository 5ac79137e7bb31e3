/- Contracts of the functions of chapter 16 (shelf): Push, Take, Snatch, Claim, Settle, All. -/
import Derived.Test.YtfppmdnpjihcpaaShelf2
namespace Go.Proofs.Ytfppmdnpjihcpaa
open Go.RowKit LinesP
set_option linter.unusedVariables false

/-- A shelf behind a call: its words, whether there is a claim, whether it is on a word; only its own blocks have changed. -/
def ShelfTo (w : World) (g cap : Nat) (S : List Nat) (ws : List Int) (is on : Bool) (w' : World) : Prop :=
  ∃ v' c', ShelfAt w' g cap v' ws c' ∧ c'.is = is ∧ c'.isOn = on ∧ Ch S w w' ∧ Foot w S (shFoot g v' c')
/-- The words are laid anew. -/
theorem ShelfAt.setW {w : World} {g cap : Nat} {v0 v' : Value} {ws' : List Int} {c : Cl} (hdr : Blk w g 107 #[.int .i64 cap, v0, c.v]) (h1 : 1 ≤ cap) (h2 : cap ≤ 256) (h : Sl 39 .u64 w v' ws') (hl : ws'.length ≤ cap)
    (on : ∀ X, c = .on X → Blk w X 35 #[.pointer (some ⟨g, 0, none⟩)] ∧ 0 < ws'.length) : ShelfAt (w.setCell ⟨g, 1, none⟩ v') g cap v' ws' c := by
  have k : Ch [g] w (w.setCell ⟨g, 1, none⟩ v') := (Ch.refl _ _).st (by simp) _
  refine ⟨by simpa using hdr.st 1 v', h.ch k (fun b hb hg => ?_), h1, h2, hl, fun X hX => ⟨(on X hX).1.ch k ?_, (on X hX).2⟩⟩
  · simp at hg; subst hg; exact h.ne hdr (by decide) hb
  · intro hg
    simp at hg
    subst hg
    have h1 := (on X hX).1
    unfold Blk at h1 hdr
    rw [h1] at hdr
    simp at hdr
section
variable {w w' : World} {g cap : Nat} {v v' : Value} {ws ws' : List Int} {c c' : Cl} (l : ShelfAt w g cap v ws c)
include l
theorem ShelfAt.same (k : Gr w w') : ShelfTo w g cap (shFoot g v c) ws c.is c.isOn w' := ⟨v, c, l.gr k, rfl, rfl, k.ch _, Foot.refl _ _⟩
/-- The claim is another one. -/
theorem ShelfAt.setC (h : ∀ X, c' = .on X → Blk w X 35 #[.pointer (some ⟨g, 0, none⟩)] ∧ 0 < ws.length) : ShelfAt (w.setCell ⟨g, 2, none⟩ c'.v) g cap v ws c' := by
  have k : Ch [g] w (w.setCell ⟨g, 2, none⟩ c'.v) := (Ch.refl _ _).st (by simp) _
  refine ⟨by simpa using l.hdr.st 2 c'.v, l.words.ch k (fun b hb hg => ?_), l.cap1, l.cap2, l.len, fun X hX => ⟨(h X hX).1.ch k ?_, (h X hX).2⟩⟩
  · simp at hg; subst hg; exact l.gv hb
  · intro hg
    simp at hg
    subst hg
    have h1 := (h X hX).1
    have h2 := l.hdr
    unfold Blk at h1 h2
    rw [h1] at h2
    simp at h2
end
theorem Cl.on_bs {c : Cl} (h : c.isOn = false) : c.bs = [] := by cases c <;> simp_all [Cl.isOn, Cl.bs]

theorem spush_nil (x : Int) (w : World) : Calls Try.prog 37 #[.pointer none, .int .u64 x] w fun e w' => e = .returned (.int .i64 14) ∧ w = w' := by
  go_enter Try.func37, Try.ntmps37
  go_wp2
  go_ret
  exact ⟨rfl, rfl⟩
section
variable (g cap : Nat) (v : Value) (ws : List Int) (w : World)
theorem spush_state (c : Cl) (hc : c.is = true) (l : ShelfAt w g cap v ws c) (x : Int) : Calls Try.prog 37 #[.pointer (some ⟨g, 0, none⟩), .int .u64 x] w fun e w' => e = .returned (.int .i64 14) ∧ Gr w w' := by
  obtain ⟨c0, c1, c2, cf⟩ := l.hdr.c3
  cases c
  · simp [Cl.is] at hc
  all_goals
    simp only [Cl.v] at c2
    clear hc
    go_enter Try.func37, Try.ntmps37
    go_wp2
    go_ret
    exact ⟨rfl, Gr.refl w⟩
theorem spush_full (l : ShelfAt w g cap v ws .no) (hf : ws.length = cap) (x : Int) : Calls Try.prog 37 #[.pointer (some ⟨g, 0, none⟩), .int .u64 x] w fun e w' => e = .returned (.int .i64 6) ∧ Gr w w' := by
  obtain ⟨a, cp, rfl, h1, h2⟩ := l.words.len
  obtain ⟨c0, c1, c2, cf⟩ := l.hdr.c3
  simp only [Cl.v] at c2
  have hd : ((ws.length : Int) == (cap : Int)) = true := by simp [hf]
  clear hf
  go_enter Try.func37, Try.ntmps37
  go_upto_region 3 with fail
  go_quiet (fail)
  go_wp2
  go_ret
  exact ⟨rfl, (Gr.refl w).drewN _⟩
set_option maxRecDepth 100000 in
theorem spush_ok (l : ShelfAt w g cap v ws .no) (hf : ws.length < cap) (x : Int) : Calls Try.prog 37 #[.pointer (some ⟨g, 0, none⟩), .int .u64 x] w fun e w' => e = .returned (.int .i64 0) ∧ ShelfTo w g cap (shFoot g v .no) (ws ++ [x]) false false w' := by
  have hsl := l.words
  obtain ⟨a, cp, rfl, h1, h2⟩ := l.words.len
  obtain ⟨c0, c1, c2, cf⟩ := l.hdr.c3
  simp only [Cl.v] at c2
  have hd : ((ws.length : Int) == (cap : Int)) = false := by simp; omega
  have hc2 := l.cap2
  go_enter Try.func37, Try.ntmps37
  go_upto_region 3 with fail
  go_quiet (fail)
  have hg0 : Gr w (w.drewN nq) := (Gr.refl w).drewN nq
  replace hsl := hsl.gr hg0
  replace l := l.gr hg0
  clear c0 c1 c2 cf
  generalize w.drewN nq = W at *
  obtain ⟨c0, c1, c2, cf⟩ := l.hdr.c3
  simp only [Cl.v] at c2
  have hgv := l.gv
  generalize hv : (.slice a ws.length cp : Value) = v at *
  go_wp2_with (at_builtin; refine wpList_sl1 el40 .u64 _ _ v ws x _ _ rfl rfl rfl rfl hsl (by omega) (by omega) ?_; intro v1 w1 hs1 k1 f1; obtain ⟨a1, cp1, rfl, h11, h21⟩ := hs1.len; obtain ⟨d0, d1, d2, df⟩ := (l.hdr.ch k1 hgv).c3)
  go_ret
  simp only [List.length_append, List.length_cons, List.length_nil, Nat.zero_add] at hs1 f1
  subst hv
  have kk : Ch (shFoot g (.slice a ws.length cp) .no) w w1 := (hg0.ch _).tr k1 (fun b hb => .inl (by simp [shFoot, hb]))
  refine ⟨rfl, _, .no, ShelfAt.setW (l.hdr.ch k1 hgv) l.cap1 hc2 hs1 (by simp; omega) (by simp), rfl, rfl, kk.st (by simp [shFoot]) _, fun b hb => ?_⟩
  simp only [shFoot, Cl.bs, List.append_nil, List.mem_cons] at hb ⊢
  rcases hb with rfl | hb
  · exact .inl (.inl rfl)
  · rcases f1 b hb with h | h
    · exact .inl (.inr h)
    · exact .inr (by have := hg0.size_le; omega)
theorem snatch_nil (w : World) : Calls Try.prog 57 #[.pointer none] w fun e w' => e = .returned (.tuple #[.int .u64 0, .int .i64 14]) ∧ w = w' := by
  go_enter Try.func57, Try.ntmps57
  go_wp2
  go_ret2
  exact ⟨rfl, rfl⟩
theorem snatch_none (c : Cl) (l : ShelfAt w g cap v [] c) : Calls Try.prog 57 #[.pointer (some ⟨g, 0, none⟩)] w fun e w' => e = .returned (.tuple #[.int .u64 0, .int .i64 7]) ∧ Gr w w' := by
  obtain ⟨a, cp, rfl, h1, h2⟩ := l.words.len
  obtain ⟨c0, c1, c2, cf⟩ := l.hdr.c3
  go_enter Try.func57, Try.ntmps57
  go_wp2
  go_ret2
  exact ⟨rfl, Gr.refl w⟩
/-- One word goes from the top. -/
theorem snatch_post {w W : World} {S : List Nat} {g cap b off cp : Nat} {z : Int} {zs : List Int} {c : Cl} (l : ShelfAt W g cap (.slice (some ⟨b, off, none⟩) (zs.length + 1) cp) (z :: zs) c) (hg : Ch S w W) (hS : ∀ k ∈ shFoot g (.slice (some ⟨b, off, none⟩) (zs.length + 1) cp) c, k ∈ S) (hh : c.held (zs.length + 1) = false) (off' : Nat) (ho : off' = if cp = 1 then off else off + 1) :
    ShelfTo w g cap S zs c.is (c.isOn && !zs.isEmpty) (W.setCell ⟨g, 1, none⟩ (.slice (some ⟨b, off', none⟩) zs.length (cp - 1))) := by
  subst ho
  have hz : c.isOn = true → 0 < zs.length := by
    intro h
    cases c with
    | on X =>
      cases zs with
      | nil => simp [Cl.held] at hh
      | cons => simp
    | _ => simp [Cl.isOn] at h
  refine ⟨_, c, ShelfAt.setW l.hdr l.cap1 l.cap2 (Sl.drop1 l.words) (by have := l.len; simp at this; omega) (fun X hX => ⟨(l.on X hX).1, hz (by rw [hX]; rfl)⟩), rfl, ?_, hg.st (.inl (hS g (by simp [shFoot]))) _, fun b' hb => .inl (hS b' ?_)⟩
  · cases h : c.isOn
    · rfl
    · have := hz h
      cases zs <;> simp_all
  · simp only [shFoot, sb] at hb ⊢
    exact hb
set_option maxRecDepth 100000 in
theorem snatch_some (c : Cl) (z : Int) (zs : List Int) (l : ShelfAt w g cap v (z :: zs) c) : Calls Try.prog 57 #[.pointer (some ⟨g, 0, none⟩)] w fun e w' => e = .returned (.tuple #[.int .u64 z, .int .i64 0]) ∧ ShelfTo w g cap (shFoot g v c) zs c.is (c.isOn && !zs.isEmpty) w' := by
  obtain ⟨b, off, cp, rfl, h1, h2, hcell, hfr, hblt⟩ := l.words.cells (by simp)
  have hm := l.cap2
  have hl := l.len
  simp only [List.length_cons] at h1 hl hcell l ⊢
  have hz := hcell 0 (by omega)
  simp only [Nat.add_zero, List.getD_cons_zero] at hz
  obtain ⟨c0, c1, c2, cf⟩ := l.hdr.c3
  have C := Lib.hid (holds_any g cap _ _ w c l)
  have hgb : g ≠ b := by have := l.gv; simpa [sb] using this
  clear hcell
  cases hh : c.held (zs.length + 1)
  · simp only [List.length_cons, hh] at C
    have HH := Lib.hid hh
    clear hh
    by_cases hcp : cp = 1
    · subst hcp
      obtain rfl : zs = [] := List.eq_nil_of_length_eq_zero (by omega)
      simp only [List.length_nil, Nat.zero_add] at l h1 hl c1 ⊢
      go_enter Try.func57, Try.ntmps57
      go_wp2_with (go_at_call 75; refine (C.out).mono ?_; rintro e w1 ⟨rfl, g1⟩; have l1 := l.gr g1; have z1 := g1.cell_some hz; obtain ⟨d0, d1, d2, df⟩ := l1.hdr.c3)
      go_ret2
      refine ⟨rfl, snatch_post l1 (g1.ch _) (fun _ h => h) HH.out off ?_⟩
      simp
    · go_enter Try.func57, Try.ntmps57
      go_wp2_with (go_at_call 75; refine (C.out).mono ?_; rintro e w1 ⟨rfl, g1⟩; have l1 := l.gr g1; have z1 := g1.cell_some hz; obtain ⟨d0, d1, d2, df⟩ := l1.hdr.c3)
      go_ret2
      refine ⟨rfl, snatch_post l1 (g1.ch _) (fun _ h => h) HH.out (off + 1) ?_⟩
      simp [hcp]
  · obtain ⟨X, rfl⟩ : ∃ X, c = .on X := by
      cases c with
      | on X => exact ⟨X, rfl⟩
      | _ => simp [Cl.held] at hh
    obtain rfl : zs = [] := by
      cases zs with
      | nil => rfl
      | cons => simp [Cl.held] at hh
    simp only [List.length_cons, hh] at C
    simp only [List.length_nil, Nat.zero_add] at l h1 hl c1
    clear hh
    by_cases hcp : cp = 1
    · subst hcp
      go_enter Try.func57, Try.ntmps57
      go_wp2_with (go_at_call 75; refine (C.out).mono ?_; rintro e w1 ⟨rfl, g1⟩; have l1 := l.gr g1; have z1 := g1.cell_some hz; obtain ⟨d0, d1, d2, df⟩ := l1.hdr.c3)
      go_ret2
      refine ⟨rfl, snatch_post (c := .nought) (zs := []) (l1.setC (c' := .nought) (by simp)) ((g1.ch _).st (by simp [shFoot]) _) (fun k hk => ?_) rfl off ?_⟩
      · simp only [shFoot, Cl.bs, List.append_nil, List.mem_cons, List.mem_append] at hk ⊢
        rcases hk with h | h
        · exact .inl h
        · exact .inr (.inl h)
      · simp
    · go_enter Try.func57, Try.ntmps57
      go_wp2_with (go_at_call 75; refine (C.out).mono ?_; rintro e w1 ⟨rfl, g1⟩; have l1 := l.gr g1; have z1 := g1.cell_some hz; obtain ⟨d0, d1, d2, df⟩ := l1.hdr.c3)
      go_ret2
      refine ⟨rfl, snatch_post (c := .nought) (zs := []) (l1.setC (c' := .nought) (by simp)) ((g1.ch _).st (by simp [shFoot]) _) (fun k hk => ?_) rfl (off + 1) ?_⟩
      · simp only [shFoot, Cl.bs, List.append_nil, List.mem_cons, List.mem_append] at hk ⊢
        rcases hk with h | h
        · exact .inl h
        · exact .inr (.inl h)
      · simp [hcp]
theorem stake_nil (w : World) : Calls Try.prog 56 #[.pointer none] w fun e w' => e = .returned (.tuple #[.int .u64 0, .int .i64 14]) ∧ w = w' := by
  go_enter Try.func56, Try.ntmps56
  go_wp2_with (go_at_call 57; refine (snatch_nil _).mono ?_; rintro e w1 ⟨rfl, rfl⟩)
  go_ret2
  exact ⟨rfl, rfl⟩
theorem stake_held (c : Cl) (l : ShelfAt w g cap v ws c) (hh : c.held ws.length = true) : Calls Try.prog 56 #[.pointer (some ⟨g, 0, none⟩)] w fun e w' => e = .returned (.tuple #[.int .u64 0, .int .i64 7]) ∧ Gr w w' := by
  have C := Lib.hid (holds_any g cap v ws w c l)
  rw [hh] at C
  clear hh l
  go_enter Try.func56, Try.ntmps56
  go_wp2_with (go_at_call 75; refine (C.out).mono ?_; rintro e w1 ⟨rfl, g1⟩)
  go_ret2
  exact ⟨rfl, g1⟩
theorem stake_none (c : Cl) (l : ShelfAt w g cap v [] c) : Calls Try.prog 56 #[.pointer (some ⟨g, 0, none⟩)] w fun e w' => e = .returned (.tuple #[.int .u64 0, .int .i64 7]) ∧ Gr w w' := by
  have C := Lib.hid (holds_any g cap v [] w c l)
  rw [show c.held ([] : List Int).length = false by cases c <;> rfl] at C
  go_enter Try.func56, Try.ntmps56
  go_wp2_with (first
    | (go_at_call 75; refine (C.out).mono ?_; rintro e w1 ⟨rfl, g1⟩)
    | (go_at_call 57; refine (snatch_none g cap v _ c (l.gr g1)).mono ?_; rintro e w2 ⟨rfl, g2⟩))
  go_ret2
  exact ⟨rfl, g1.tr g2⟩
theorem ShelfTo.gl {w w1 w' : World} {g cap : Nat} {S : List Nat} {ws : List Int} {is on : Bool} (k : Gr w w1) (h : ShelfTo w1 g cap S ws is on w') : ShelfTo w g cap S ws is on w' := by
  obtain ⟨v', c', h1, h2, h3, h4, h5⟩ := h
  exact ⟨v', c', h1, h2, h3, (k.ch S).tr h4 (fun b hb => .inl hb), fun b hb => (h5 b hb).imp id (fun h => Nat.le_trans k.size_le h)⟩
theorem stake_some (c : Cl) (z : Int) (zs : List Int) (l : ShelfAt w g cap v (z :: zs) c) (hh : c.held (zs.length + 1) = false) : Calls Try.prog 56 #[.pointer (some ⟨g, 0, none⟩)] w fun e w' => e = .returned (.tuple #[.int .u64 z, .int .i64 0]) ∧ ShelfTo w g cap (shFoot g v c) zs c.is (c.isOn && !zs.isEmpty) w' := by
  have C := Lib.hid (holds_any g cap v (z :: zs) w c l)
  simp only [List.length_cons, hh] at C
  have C2 := Lib.hid (fun w1 (g1 : Gr w w1) => snatch_some g cap v w1 c z zs (l.gr g1))
  clear hh l
  generalize hS : ShelfTo w g cap (shFoot g v c) zs c.is (c.isOn && !zs.isEmpty) = T
  have HS := Lib.hid hS
  clear hS
  go_enter Try.func56, Try.ntmps56
  go_wp2_with (first
    | (go_at_call 75; refine (C.out).mono ?_; rintro e w1 ⟨rfl, g1⟩)
    | (go_at_call 57; refine (C2.out _ g1).mono ?_; rintro e w2 ⟨rfl, t2⟩))
  go_ret2
  refine ⟨rfl, ?_⟩
  rw [← HS.out]
  exact t2.gl g1
theorem claim_nil (w : World) : Calls Try.prog 58 #[.pointer none] w fun e w' => e = .returned (.tuple #[.bool false, .int .i64 14]) ∧ Gr w w' := by
  go_enter Try.func58, Try.ntmps58
  go_wp2
  go_ret2
  exact ⟨rfl, (Gr.refl w).al _⟩
theorem claim_state (c : Cl) (hc : c.is = true) (l : ShelfAt w g cap v ws c) : Calls Try.prog 58 #[.pointer (some ⟨g, 0, none⟩)] w fun e w' => e = .returned (.tuple #[.bool false, .int .i64 14]) ∧ Gr w w' := by
  obtain ⟨c0, c1, c2, cf⟩ := (l.hdr.al (.cells #[.pointer (some ⟨g, 0, none⟩)] 35)).c3
  cases c
  · simp [Cl.is] at hc
  all_goals
    simp only [Cl.v] at c2
    clear hc
    go_enter Try.func58, Try.ntmps58
    go_wp2
    go_ret2
    exact ⟨rfl, (Gr.refl w).al _⟩
theorem claim_none (l : ShelfAt w g cap v [] .no) : Calls Try.prog 58 #[.pointer (some ⟨g, 0, none⟩)] w fun e w' => e = .returned (.tuple #[.bool false, .int .i64 0]) ∧ ShelfTo w g cap (shFoot g v .no) [] true false w' := by
  obtain ⟨a, cp, rfl, h1, h2⟩ := l.words.len
  have hg1 : Gr w (w.alloc (.cells #[.pointer (some ⟨g, 0, none⟩)] 35)) := (Gr.refl w).al _
  have hX := Blk.new w 35 #[.pointer (some ⟨g, 0, none⟩)]
  have l1 := l.gr hg1
  go_enter Try.func58, Try.ntmps58
  go_upto_region 1 with fail
  generalize w.alloc (.cells #[.pointer (some ⟨g, 0, none⟩)] 35) = W at *
  generalize w.heap.size = X at *
  obtain ⟨c0, c1, c2, cf⟩ := l1.hdr.c3
  simp only [Cl.v] at c2
  obtain ⟨x0, xf⟩ := hX.c1
  go_wp2
  go_ret2
  exact ⟨rfl, _, .nought, l1.setC (c' := .nought) (by simp), rfl, rfl, (hg1.ch _).st (by simp [shFoot]) _, fun b hb => .inl hb⟩
theorem claim_some (l : ShelfAt w g cap v ws .no) (h0 : 0 < ws.length) : Calls Try.prog 58 #[.pointer (some ⟨g, 0, none⟩)] w fun e w' => e = .returned (.tuple #[.bool true, .int .i64 0]) ∧ ShelfTo w g cap (shFoot g v .no) ws true true w' := by
  obtain ⟨a, cp, rfl, h1, h2⟩ := l.words.len
  have hg1 : Gr w (w.alloc (.cells #[.pointer (some ⟨g, 0, none⟩)] 35)) := (Gr.refl w).al _
  have hX := Blk.new w 35 #[.pointer (some ⟨g, 0, none⟩)]
  have l1 := l.gr hg1
  have hd : ((ws.length : Int) == 0) = false := by simp; intro h; simp [h] at h0
  have HX := Lib.hid (Nat.le_refl w.heap.size)
  go_enter Try.func58, Try.ntmps58
  go_upto_region 1 with fail
  generalize w.alloc (.cells #[.pointer (some ⟨g, 0, none⟩)] 35) = W at *
  generalize hXe : w.heap.size = X at hX ⊢
  replace HX := Lib.hid hXe
  clear hXe
  obtain ⟨c0, c1, c2, cf⟩ := l1.hdr.c3
  simp only [Cl.v] at c2
  obtain ⟨x0, xf⟩ := hX.c1
  go_wp2
  go_ret2
  refine ⟨rfl, _, .on X, l1.setC (c' := .on X) (fun Y hY => by cases hY; exact ⟨hX, h0⟩), rfl, rfl, (hg1.ch _).st (by simp [shFoot]) _, fun b hb => ?_⟩
  simp only [shFoot, Cl.bs, List.append_nil, List.mem_cons, List.mem_append, List.not_mem_nil, or_false] at hb ⊢
  rcases hb with rfl | hb | hb
  · exact .inl (.inl rfl)
  · exact .inl (.inr hb)
  · exact .inr (by rw [HX.out, hb]; exact Nat.le_refl _)
end
end Go.Proofs.Ytfppmdnpjihcpaa
