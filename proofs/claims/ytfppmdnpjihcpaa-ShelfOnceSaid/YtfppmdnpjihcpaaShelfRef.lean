/- Contracts of the document's functions of chapter 16 (shelf), for every input. -/
import Derived.Test.YtfppmdnpjihcpaaShelf4
namespace Go.Proofs.Ytfppmdnpjihcpaa
open Go.RowKit LinesP
set_option linter.unusedVariables false

/-- The document's shelf in block g, whose words lie at v. -/
structure DocS (w : World) (g : Nat) (cap : Nat) (v : Value) (ws : List Int) (cl on : Bool) : Prop where
  hdr : Blk w g 42 #[.int .i64 cap, v, .bool cl, .bool on]
  words : Sl 39 .u64 w v ws
  cap2 : cap ≤ 256
  len : ws.length ≤ cap
  on : on = true → 0 < ws.length
def dsFoot (g : Nat) (v : Value) : List Nat := g :: sb v
section
variable {w w' : World} {g cap : Nat} {v : Value} {ws : List Int} {cl on : Bool} {S : List Nat} (l : DocS w g cap v ws cl on)
include l
theorem DocS.ch (k : Ch S w w') (h : Disj (dsFoot g v) S) : DocS w' g cap v ws cl on :=
  ⟨l.hdr.ch k (h g (by simp [dsFoot])), l.words.ch k (fun b hb => h b (by simp [dsFoot, hb])), l.cap2, l.len, l.on⟩
theorem DocS.gr (k : Gr w w') : DocS w' g cap v ws cl on := l.ch (k.ch []) (fun _ _ => by simp)
theorem DocS.inn : In w (dsFoot g v) := by
  intro k hk
  simp only [dsFoot, List.mem_cons] at hk
  rcases hk with rfl | hk
  · exact l.hdr.lt
  · exact l.words.inn k hk
theorem DocS.gv : g ∉ sb v := l.words.ne l.hdr (by decide)
end
/-- The document's shelf behind a call. -/
def DocTo (w : World) (g cap : Nat) (S : List Nat) (ws : List Int) (cl on : Bool) (w' : World) : Prop :=
  ∃ v', DocS w' g cap v' ws cl on ∧ Ch S w w' ∧ Foot w S (dsFoot g v')
theorem DocS.same {w w' : World} {g cap : Nat} {v : Value} {ws : List Int} {cl on : Bool} (l : DocS w g cap v ws cl on) (k : Gr w w') : DocTo w g cap (dsFoot g v) ws cl on w' := ⟨v, l.gr k, k.ch _, Foot.refl _ _⟩
/-- The cells are laid anew. -/
theorem DocS.set {w W w' : World} {g cap : Nat} {v0 v' : Value} {ws' : List Int} {cl on cl' on' : Bool} {S : List Nat} (l : Blk W g 42 #[.int .i64 cap, v0, .bool cl, .bool on]) (kw : Ch S w W) (hS : g ∈ S) (fS : Foot w S (sb v')) (h2 : cap ≤ 256)
    (k : Ch [g] W w') (hb : Blk w' g 42 #[.int .i64 cap, v', .bool cl', .bool on']) (h : Sl 39 .u64 W v' ws') (hl : ws'.length ≤ cap) (ho : on' = true → 0 < ws'.length) : DocTo w g cap S ws' cl' on' w' := by
  refine ⟨v', ⟨hb, h.ch k (fun b hb' hg => ?_), h2, hl, ho⟩, kw.tr k (fun b hb => by simp at hb; subst hb; exact .inl hS), fun b hb => ?_⟩
  · simp at hg; subst hg; exact h.ne l (by decide) hb'
  · simp only [dsFoot, List.mem_cons] at hb
    rcases hb with rfl | hb
    · exact .inl hS
    · exact fS b hb
set_option maxRecDepth 100000 in
theorem dsNew_any (n : Int) (w : World) : Calls Try.prog 19 #[.int .i64 n] w fun e w' => e = .returned (.pointer (some ⟨w.heap.size, 0, none⟩)) ∧ DocS w' w.heap.size (clampI n 1 256).toNat (.slice none 0 0) [] false false ∧ Gr w w' := by
  have key : ∀ m : Nat, m ≤ 256 → clampI n 1 256 = m → DocS (w.alloc (.cells #[.int .i64 m, .slice none 0 0, .bool false, .bool false] 42)) w.heap.size (clampI n 1 256).toNat (.slice none 0 0) [] false false ∧ Gr w (w.alloc (.cells #[.int .i64 m, .slice none 0 0, .bool false, .bool false] 42)) := by
    intro m hm he
    rw [he]
    exact ⟨⟨Blk.new w 42 _, Sl.nil _ _ _, by simp; omega, by simp, by simp⟩, (Gr.refl w).al _⟩
  have HK := Lib.hid key
  clear key
  by_cases h1 : n < 1
  · go_enter Try.func19, Try.ntmps19
    go_wp2
    all_goals (go_ret; exact ⟨rfl, HK.out 1 (by omega) (by unfold clampI; omega)⟩)
  · by_cases h2 : n ≤ 256
    · obtain ⟨m, rfl⟩ := Int.eq_ofNat_of_zero_le (show 0 ≤ n by omega)
      go_enter Try.func19, Try.ntmps19
      go_wp2
      all_goals (go_ret; exact ⟨rfl, HK.out m (by omega) (by unfold clampI; omega)⟩)
    · go_enter Try.func19, Try.ntmps19
      go_wp2
      all_goals (go_ret; exact ⟨rfl, HK.out 256 (by omega) (by unfold clampI; omega)⟩)
section
variable (g cap : Nat) (v : Value) (ws : List Int) (w : World)
theorem dpush_state (on : Bool) (l : DocS w g cap v ws true on) (x : Int) : Calls Try.prog 38 #[.pointer (some ⟨g, 0, none⟩), .int .u64 x] w fun e w' => e = .returned (.int .i64 14) ∧ Gr w w' := by
  obtain ⟨c0, c1, c2, c3, cf⟩ := l.hdr.c4
  go_enter Try.func38, Try.ntmps38
  go_wp2
  go_ret
  exact ⟨rfl, Gr.refl w⟩
theorem dpush_full (on : Bool) (l : DocS w g cap v ws false on) (hf : ws.length = cap) (x : Int) : Calls Try.prog 38 #[.pointer (some ⟨g, 0, none⟩), .int .u64 x] w fun e w' => e = .returned (.int .i64 6) ∧ Gr w w' := by
  obtain ⟨a, cp, rfl, h1, h2⟩ := l.words.len
  obtain ⟨c0, c1, c2, c3, cf⟩ := l.hdr.c4
  have hd : decide (cap ≤ ws.length) = true := by simp; omega
  clear hf
  go_enter Try.func38, Try.ntmps38
  go_upto_region 3 with fail
  go_quiet (fail)
  go_wp2
  go_ret
  exact ⟨rfl, (Gr.refl w).drewN _⟩
set_option maxRecDepth 100000 in
theorem dpush_ok (on : Bool) (l : DocS w g cap v ws false on) (hf : ws.length < cap) (x : Int) : Calls Try.prog 38 #[.pointer (some ⟨g, 0, none⟩), .int .u64 x] w fun e w' => e = .returned (.int .i64 0) ∧ DocTo w g cap (dsFoot g v) (ws ++ [x]) false on w' := by
  have hsl := l.words
  obtain ⟨a, cp, rfl, h1, h2⟩ := l.words.len
  obtain ⟨c0, c1, c2, c3, cf⟩ := l.hdr.c4
  have hd : decide (cap ≤ ws.length) = false := by simp; omega
  have hc2 := l.cap2
  go_enter Try.func38, Try.ntmps38
  go_upto_region 3 with fail
  go_quiet (fail)
  have hg0 : Gr w (w.drewN nq) := (Gr.refl w).drewN nq
  replace hsl := hsl.gr hg0
  replace l := l.gr hg0
  clear c0 c1 c2 c3 cf
  generalize w.drewN nq = W at *
  have hg1 : Gr W (W.alloc (.cells #[] 39)) := (Gr.refl W).al _
  have he1 : Sl 39 .u64 (W.alloc (.cells #[] 39)) (.slice (some ⟨W.heap.size, 0, none⟩) 0 0) [] := ⟨_, 0, rfl, by simp, by omega, .inr ⟨_, 0, #[], rfl, Blk.new W 39 _, by simp, by simp⟩⟩
  have hgv := l.gv
  have hgW := l.hdr.lt
  have hL1 := l.hdr.gr hg1
  obtain ⟨c0, c1, c2, c3, cf⟩ := hL1.c4
  go_wp2_with (first
    | (at_builtin; refine wpList_slA el40 .u64 (.tmp 20) (.tmp 24) (.slice (some ⟨W.heap.size, 0, none⟩) 0 0) (.slice a ws.length cp) [] ws _ rfl rfl rfl rfl he1 (hsl.gr hg1) (by simp; omega) (by simp; omega) ?_; intro v1 w1 s1 k1 f1; simp only [List.nil_append] at s1)
    | (at_builtin; refine wpList_sl1 el40 .u64 (.tmp 25) (.tmp 27) v1 ws x _ _ rfl rfl rfl rfl s1 (by omega) (by omega) ?_; intro v2 w2 s2 k2 f2; obtain ⟨a2, cp2, rfl, h12, h22⟩ := s2.len; have hL2 := (hL1.ch k1 (by simp [sb]; omega)).ch k2 (by intro hm; rcases f1 _ hm with h | h <;> simp [sb] at h <;> omega); obtain ⟨d0, d1, d2, d3, df⟩ := hL2.c4))
  go_ret
  simp only [List.length_append, List.length_cons, List.length_nil, Nat.zero_add] at s2 f2
  have n1 : ∀ b ∈ sb v1, W.heap.size ≤ b := by
    intro b hb
    rcases f1 _ hb with h | h
    · simp [sb] at h; omega
    · rw [World.size_alloc] at h; omega
  have gg : Gr W w2 := (hg1.chs k1 (by simp [sb])).chs k2 n1
  refine ⟨rfl, DocS.set hL2 ((hg0.tr gg).ch _) (by simp [dsFoot]) (fun b hb => .inr ?_) hc2 ((Ch.refl _ _).st (by simp) _) (by simpa using hL2.st 1 _) s2 (by simp; omega) (by intro _; simp)⟩
  have hs0 := hg0.size_le
  rcases f2 b hb with h | h
  · have := n1 b h; omega
  · have := k1.size; rw [World.size_alloc] at this; omega
theorem dsnatch_none (cl on : Bool) (l : DocS w g cap v [] cl on) : Calls Try.prog 64 #[.pointer (some ⟨g, 0, none⟩)] w fun e w' => e = .returned (.tuple #[.int .u64 0, .int .i64 7]) ∧ Gr w w' := by
  obtain ⟨a, cp, rfl, h1, h2⟩ := l.words.len
  obtain ⟨c0, c1, c2, c3, cf⟩ := l.hdr.c4
  go_enter Try.func64, Try.ntmps64
  go_wp2
  go_ret2
  exact ⟨rfl, Gr.refl w⟩
theorem dsnatch_some (cl on : Bool) (z : Int) (zs : List Int) (l : DocS w g cap v (z :: zs) cl on) : Calls Try.prog 64 #[.pointer (some ⟨g, 0, none⟩)] w fun e w' => e = .returned (.tuple #[.int .u64 z, .int .i64 0]) ∧ DocTo w g cap (dsFoot g v) zs cl (on && !zs.isEmpty) w' := by
  obtain ⟨b, off, cp, rfl, h1, h2, hcell, hfr, hblt⟩ := l.words.cells (by simp)
  have hm := l.cap2
  have hl := l.len
  have hw := l.words
  simp only [List.length_cons] at h1 hl hcell l hw ⊢
  have hz := hcell 0 (by omega)
  simp only [Nat.add_zero, List.getD_cons_zero] at hz
  obtain ⟨c0, c1, c2, c3, cf⟩ := l.hdr.c4
  have hgb : g ≠ b := by have := l.gv; simpa [sb] using this
  have hd := Sl.drop1 hw
  have L := l.hdr
  have key : ∀ off' on', off' = (if cp = 1 then off else off + 1) → on' = (on && !zs.isEmpty) → ∀ w', Ch [g] w w' → Blk w' g 42 #[.int .i64 cap, .slice (some ⟨b, off', none⟩) zs.length (cp - 1), .bool cl, .bool on'] → DocTo w g cap (dsFoot g (.slice (some ⟨b, off, none⟩) (zs.length + 1) cp)) zs cl (on && !zs.isEmpty) w' := by
    rintro off' on' rfl rfl w' k hb
    refine DocS.set L (Ch.refl _ _) (by simp [dsFoot]) (fun x hx => .inl ?_) hm k hb hd (by omega) (by cases zs <;> simp)
    simp only [dsFoot, sb, List.mem_cons, List.not_mem_nil, or_false] at hx ⊢
    exact .inr hx
  have HK := Lib.hid key
  have HL := Lib.hid L
  clear key hcell hd hw l L
  cases zs with
  | nil =>
    simp only [List.length_nil, Nat.zero_add, List.isEmpty_nil, Bool.not_true, Bool.and_false] at *
    by_cases hcp : cp = 1
    · subst hcp
      go_enter Try.func64, Try.ntmps64
      go_wp2
      go_ret2
      refine ⟨rfl, HK.out off false (by simp) rfl _ (((Ch.refl _ _).st (by simp) _).st (by simp) _) ?_⟩
      simpa using (HL.out.st 1 _).st 3 _
    · go_enter Try.func64, Try.ntmps64
      go_wp2
      go_ret2
      refine ⟨rfl, HK.out (off + 1) false (by simp [hcp]) rfl _ (((Ch.refl _ _).st (by simp) _).st (by simp) _) ?_⟩
      simpa using (HL.out.st 1 _).st 3 _
  | cons z' zs =>
    simp only [List.length_cons, List.isEmpty_cons, Bool.not_false, Bool.and_true] at *
    have hcp : ¬ cp = 1 := by omega
    go_enter Try.func64, Try.ntmps64
    go_wp2
    go_ret2
    refine ⟨rfl, HK.out (off + 1) on (by simp [hcp]) rfl _ (((Ch.refl _ _).st (by simp) _)) ?_⟩
    simpa using (HL.out.st 1 _)
theorem dtake_held (cl : Bool) (z : Int) (l : DocS w g cap v [z] cl true) : Calls Try.prog 63 #[.pointer (some ⟨g, 0, none⟩)] w fun e w' => e = .returned (.tuple #[.int .u64 0, .int .i64 7]) ∧ Gr w w' := by
  obtain ⟨a, cp, rfl, h1, h2⟩ := l.words.len
  obtain ⟨c0, c1, c2, c3, cf⟩ := l.hdr.c4
  simp only [List.length_cons, List.length_nil, Nat.zero_add] at c1
  go_enter Try.func63, Try.ntmps63
  go_wp2
  go_ret2
  exact ⟨rfl, Gr.refl w⟩
theorem dtake_of (cl on : Bool) (l : DocS w g cap v ws cl on) (hh : (decide (ws.length = 1) && on) = false) (r s : Value) (T : World → Prop) (C : Calls Try.prog 64 #[.pointer (some ⟨g, 0, none⟩)] w fun e w' => e = .returned (.tuple #[r, s]) ∧ T w') :
    Calls Try.prog 63 #[.pointer (some ⟨g, 0, none⟩)] w fun e w' => e = .returned (.tuple #[r, s]) ∧ T w' := by
  obtain ⟨a, cp, rfl, h1, h2⟩ := l.words.len
  obtain ⟨c0, c1, c2, c3, cf⟩ := l.hdr.c4
  have HC := Lib.hid C
  clear C l
  by_cases h : ws.length = 1
  · obtain rfl : on = false := by simpa [h] using hh
    have hd : ((ws.length : Int) == 1) = true := by simp [h]
    clear hh h
    go_enter Try.func63, Try.ntmps63
    go_wp2_with (go_at_call 64; refine (HC.out).mono ?_; rintro e w1 ⟨rfl, g1⟩)
    go_ret2
    exact ⟨rfl, g1⟩
  · have hd : ((ws.length : Int) == 1) = false := by simp; omega
    clear hh h
    go_enter Try.func63, Try.ntmps63
    go_wp2_with (go_at_call 64; refine (HC.out).mono ?_; rintro e w1 ⟨rfl, g1⟩)
    go_ret2
    exact ⟨rfl, g1⟩
theorem dclaim_state (on : Bool) (l : DocS w g cap v ws true on) : Calls Try.prog 65 #[.pointer (some ⟨g, 0, none⟩)] w fun e w' => e = .returned (.tuple #[.bool false, .int .i64 14]) ∧ Gr w w' := by
  obtain ⟨c0, c1, c2, c3, cf⟩ := l.hdr.c4
  go_enter Try.func65, Try.ntmps65
  go_wp2
  go_ret2
  exact ⟨rfl, Gr.refl w⟩
theorem dclaim_ok (on : Bool) (l : DocS w g cap v ws false on) : Calls Try.prog 65 #[.pointer (some ⟨g, 0, none⟩)] w fun e w' => e = .returned (.tuple #[.bool (decide (0 < ws.length)), .int .i64 0]) ∧ DocTo w g cap (dsFoot g v) ws true (decide (0 < ws.length)) w' := by
  have hw := l.words
  have hm := l.cap2
  have hl := l.len
  have L := l.hdr
  obtain ⟨a, cp, rfl, h1, h2⟩ := l.words.len
  obtain ⟨c0, c1, c2, c3, cf⟩ := l.hdr.c4
  by_cases h : 0 < ws.length
  · have hd : decide (0 < ws.length) = true := by simpa using h
    rw [hd]
    go_enter Try.func65, Try.ntmps65
    go_wp2
    go_ret2
    refine ⟨rfl, DocS.set L (Ch.refl _ _) (by simp [dsFoot]) (fun x hx => .inl (by simp [dsFoot, hx])) hm (((Ch.refl _ _).st (by simp) _).st (by simp) _) ?_ hw hl (fun _ => h)⟩
    simpa using (L.st 2 _).st 3 _
  · have hd : decide (0 < ws.length) = false := by simpa using h
    rw [hd]
    go_enter Try.func65, Try.ntmps65
    go_wp2
    go_ret2
    refine ⟨rfl, DocS.set L (Ch.refl _ _) (by simp [dsFoot]) (fun x hx => .inl (by simp [dsFoot, hx])) hm (((Ch.refl _ _).st (by simp) _).st (by simp) _) ?_ hw hl (by simp)⟩
    simpa using (L.st 2 _).st 3 _
theorem dsettle_state (on : Bool) (l : DocS w g cap v ws false on) : Calls Try.prog 66 #[.pointer (some ⟨g, 0, none⟩)] w fun e w' => e = .returned (.tuple #[.int .u64 0, .int .i64 14]) ∧ Gr w w' := by
  obtain ⟨c0, c1, c2, c3, cf⟩ := l.hdr.c4
  go_enter Try.func66, Try.ntmps66
  go_wp2
  go_ret2
  exact ⟨rfl, Gr.refl w⟩
theorem dsettle_nought (l : DocS w g cap v ws true false) : Calls Try.prog 66 #[.pointer (some ⟨g, 0, none⟩)] w fun e w' => e = .returned (.tuple #[.int .u64 0, .int .i64 7]) ∧ DocTo w g cap (dsFoot g v) ws false false w' := by
  have hw := l.words
  have hm := l.cap2
  have hl := l.len
  have L := l.hdr
  obtain ⟨c0, c1, c2, c3, cf⟩ := l.hdr.c4
  go_enter Try.func66, Try.ntmps66
  go_wp2
  go_ret2
  refine ⟨rfl, DocS.set L (Ch.refl _ _) (by simp [dsFoot]) (fun x hx => .inl (by simp [dsFoot, hx])) hm ((Ch.refl _ _).st (by simp) _) ?_ hw hl (by simp)⟩
  simpa using (L.st 2 _)
theorem dsettle_on (z : Int) (zs : List Int) (l : DocS w g cap v (zs ++ [z]) true true) : Calls Try.prog 66 #[.pointer (some ⟨g, 0, none⟩)] w fun e w' => e = .returned (.tuple #[.int .u64 z, .int .i64 0]) ∧ DocTo w g cap (dsFoot g v) zs false false w' := by
  obtain ⟨b, off, cp, rfl, h1, h2, hcell, hfr, hblt⟩ := l.words.cells (by simp)
  have hm := l.cap2
  have hl := l.len
  have hz := hcell zs.length (by simp)
  rw [show (zs ++ [z]).getD zs.length 0 = z by simp] at hz
  have hgb : g ≠ b := by have := l.gv; simpa [sb] using this
  have hw' : Sl 39 .u64 w (.slice (some ⟨b, off, none⟩) zs.length cp) zs := by
    have := l.words.take zs.length (by simp)
    simpa using this
  have L := l.hdr
  have HP := Lib.hid (show ∀ w', Ch [g] w w' → Blk w' g 42 #[.int .i64 cap, .slice (some ⟨b, off, none⟩) zs.length cp, .bool false, .bool false] → DocTo w g cap (dsFoot g (.slice (some ⟨b, off, none⟩) (zs ++ [z]).length cp)) zs false false w' from
    fun w' k hb => DocS.set L (Ch.refl _ _) (by simp [dsFoot]) (fun x hx => .inl (by simp only [dsFoot, sb, List.mem_cons, List.not_mem_nil, or_false] at hx ⊢; exact .inr hx)) hm k hb hw' (by simp at hl; omega) (by simp))
  obtain ⟨c0, c1, c2, c3, cf⟩ := l.hdr.c4
  simp only [List.length_append, List.length_cons, List.length_nil, Nat.zero_add] at c1 h1 hl HP L ⊢
  have HL := Lib.hid L
  clear hcell hw' l L
  have hwr : IntKind.i64.wrap ((zs.length : Int) + 1 - 1) = zs.length := by rw [show (zs.length : Int) + 1 - 1 = zs.length by omega]; exact IntWalk.i64_in _ (by omega)
  go_enter Try.func66, Try.ntmps66
  go_upto_region 7 with fail
  go_region
  go_wp2_with fail
  go_region
  go_wp2
  go_ret2
  refine ⟨rfl, HP.out _ ?_ ?_⟩
  · exact ((((Ch.refl _ _).st (by simp) _).st (by simp) _).st (by simp) _).drew.drew
  · have := ((HL.out.st 2 (.bool false)).st 3 (.bool false)).st 1 (.slice (some ⟨b, off, none⟩) zs.length cp)
    simpa using this.drew.drew
end
end Go.Proofs.Ytfppmdnpjihcpaa
