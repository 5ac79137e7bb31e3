/- Contracts of the functions of chapter 16 (shelf): Settle, All. -/
import Derived.Test.YtfppmdnpjihcpaaShelf3
namespace Go.Proofs.Ytfppmdnpjihcpaa
open Go.RowKit LinesP
set_option linter.unusedVariables false
theorem settle_nil (w : World) : Calls Try.prog 59 #[.pointer none] w fun e w' => e = .returned (.tuple #[.int .u64 0, .int .i64 14]) ∧ w = w' := by
  go_enter Try.func59, Try.ntmps59
  go_wp2
  go_ret2
  exact ⟨rfl, rfl⟩
section
variable (g cap : Nat) (v : Value) (ws : List Int) (w : World)
theorem settle_state (l : ShelfAt w g cap v ws .no) : Calls Try.prog 59 #[.pointer (some ⟨g, 0, none⟩)] w fun e w' => e = .returned (.tuple #[.int .u64 0, .int .i64 14]) ∧ Gr w w' := by
  obtain ⟨c0, c1, c2, cf⟩ := l.hdr.c3
  simp only [Cl.v] at c2
  go_enter Try.func59, Try.ntmps59
  go_wp2
  go_ret2
  exact ⟨rfl, Gr.refl w⟩
theorem settle_nought (l : ShelfAt w g cap v ws .nought) : Calls Try.prog 59 #[.pointer (some ⟨g, 0, none⟩)] w fun e w' => e = .returned (.tuple #[.int .u64 0, .int .i64 7]) ∧ ShelfTo w g cap (shFoot g v .nought) ws false false w' := by
  obtain ⟨a, cp, rfl, h1, h2⟩ := l.words.len
  obtain ⟨c0, c1, c2, cf⟩ := l.hdr.c3
  simp only [Cl.v] at c2
  have hm := l.cap2
  have hl := l.len
  have HP := Lib.hid (show ShelfTo w g cap (shFoot g (.slice a ws.length cp) .nought) ws false false (w.setCell ⟨g, 2, none⟩ .nilFunc) from
    ⟨_, .no, l.setC (c' := .no) (by simp), rfl, rfl, (Ch.refl _ _).st (by simp [shFoot]) _, fun b hb => .inl hb⟩)
  by_cases h0 : 0 < ws.length
  · have h0' : decide ((0 : Int) ≤ (ws.length : Int) - 1) = true := by simp; omega
    go_enter Try.func59, Try.ntmps59
    go_wp2_with (go_at_call 76; refine (nothing_any _ _).mono ?_; rintro e w1 ⟨rfl, rfl⟩)
    go_ret2
    exact ⟨rfl, HP.out⟩
  · have h0' : decide ((0 : Int) ≤ (ws.length : Int) - 1) = false := by simp; omega
    go_enter Try.func59, Try.ntmps59
    go_wp2
    go_ret2
    exact ⟨rfl, HP.out⟩
theorem settle_on (X : Nat) (z : Int) (zs : List Int) (l : ShelfAt w g cap v (zs ++ [z]) (.on X)) : Calls Try.prog 59 #[.pointer (some ⟨g, 0, none⟩)] w fun e w' => e = .returned (.tuple #[.int .u64 z, .int .i64 0]) ∧ ShelfTo w g cap (shFoot g v (.on X)) zs false false w' := by
  obtain ⟨b, off, cp, rfl, h1, h2, hcell, hfr, hblt⟩ := l.words.cells (by simp)
  have hm := l.cap2
  have hl := l.len
  have C := Lib.hid (claimF_any g cap _ _ w X l (zs.length : Int) (by simp))
  have hz := hcell zs.length (by simp)
  rw [show (zs ++ [z]).getD zs.length 0 = z by simp] at hz
  have hgb : g ≠ b := by have := l.gv; simpa [sb] using this
  have hw' : Sl 39 .u64 w (.slice (some ⟨b, off, none⟩) zs.length cp) zs := by
    have := l.words.take zs.length (by simp)
    simpa using this
  have l' := l.setC (c' := .no) (by simp)
  have hk : Ch (shFoot g (.slice (some ⟨b, off, none⟩) (zs ++ [z]).length cp) (.on X)) w (w.setCell ⟨g, 2, none⟩ .nilFunc) := (Ch.refl _ _).st (by simp [shFoot]) _
  have hw2 : Sl 39 .u64 (w.setCell ⟨g, 2, none⟩ .nilFunc) (.slice (some ⟨b, off, none⟩) zs.length cp) zs := hw'.ch ((Ch.refl [g] w).st (p := ⟨g, 2, none⟩) (by simp) .nilFunc) (fun k hk => by simp [sb] at hk ⊢; omega)
  have HP := Lib.hid (show ShelfTo w g cap (shFoot g (.slice (some ⟨b, off, none⟩) (zs ++ [z]).length cp) (.on X)) zs false false ((w.setCell ⟨g, 2, none⟩ .nilFunc).setCell ⟨g, 1, none⟩ (.slice (some ⟨b, off, none⟩) zs.length cp)) from
    ⟨_, .no, ShelfAt.setW l'.hdr l'.cap1 l'.cap2 hw2 (by simp at hl; omega) (by simp), rfl, rfl, hk.st (by simp [shFoot]) _, fun k hk => .inl (by
      simp only [shFoot, Cl.bs, sb, List.append_nil, List.mem_cons, List.mem_append, List.not_mem_nil, or_false] at hk ⊢
      rcases hk with h | h
      · exact .inl h
      · exact .inr (.inl h))⟩)
  obtain ⟨c0, c1, c2, cf⟩ := l.hdr.c3
  simp only [Cl.v] at c2
  simp only [List.length_append, List.length_cons, List.length_nil, Nat.zero_add] at c1 h1 hl HP ⊢
  have h0' : decide ((0 : Int) ≤ (zs.length : Int)) = true := by simp
  clear hcell hw' hw2 l' hk l
  go_enter Try.func59, Try.ntmps59
  go_wp2_with (go_at_call 77; refine (C.out).mono ?_; rintro e w1 ⟨rfl, rfl⟩)
  go_ret2
  exact ⟨rfl, HP.out⟩
end
/-- A result that is a new slice of words. -/
def WordsRes (w : World) (ws : List Int) (r : Ending) (w' : World) : Prop := ∃ v, r = .returned v ∧ Sl 39 .u64 w' v ws ∧ Gr w w' ∧ ∀ b ∈ sb v, w.heap.size ≤ b
theorem clone_any (v : Value) (ws : List Int) (w : World) (h : Sl 39 .u64 w v ws) (hl : ws.length ≤ 1000) : Calls Try.prog 72 #[v] w (WordsRes w ws) := by
  obtain ⟨a, cp, rfl, h1, h2, h3⟩ := h
  rcases h3 with ⟨rfl, rfl⟩ | ⟨b, off, cur, rfl, h4⟩
  · obtain rfl : ws = [] := List.eq_nil_of_length_eq_zero (by omega)
    have he := @Lib.run_eql_slice_nil Try.prog
    go_enter Try.func72, Try.ntmps72
    go_wp2
    go_ret
    exact ⟨_, rfl, Sl.nil _ _ _, Gr.refl w, by simp [sb]⟩
  · have hs : Sl 39 .u64 w (.slice (some ⟨b, off, none⟩) ws.length cp) ws := ⟨_, cp, rfl, h1, h2, .inr ⟨b, off, cur, rfl, h4⟩⟩
    have he := fun w => Lib.run_eql_slice_nil (P := Try.prog) w 40 39 (some ⟨b, off, none⟩) ws.length cp 0 0 Try.underlying40
    have hs1 : Sl 39 .u64 (w.alloc (.cells #[] 39)) (.slice (some ⟨b, off, none⟩) ws.length cp) ws := hs.gr ((Gr.refl w).al _)
    have he1 : Sl 39 .u64 (w.alloc (.cells #[] 39)) (.slice (some ⟨w.heap.size, 0, none⟩) 0 0) [] := ⟨_, 0, rfl, by simp, by omega, .inr ⟨_, 0, #[], rfl, Blk.new w 39 _, by simp, by simp⟩⟩
    go_enter Try.func72, Try.ntmps72
    go_wp2_with (at_builtin; refine wpList_slA el40 .u64 _ _ (.slice (some ⟨w.heap.size, 0, none⟩) 0 0) (.slice (some ⟨b, off, none⟩) ws.length cp) [] ws _ rfl rfl rfl rfl he1 hs1 (by simp; omega) (by simp; omega) ?_; intro v1 w1 s1 k1 f1)
    go_ret
    refine ⟨_, rfl, by simpa using s1, ?_, fun k hk => ?_⟩
    · exact (((Gr.refl w).al (.cells #[] 39))).chs k1 (by simp [sb])
    · rcases f1 k hk with h | h
      · simp [sb] at h; omega
      · rw [World.size_alloc] at h; omega
theorem sall_nil (w : World) : Calls Try.prog 39 #[.pointer none] w fun e w' => e = .returned (.slice none 0 0) ∧ w = w' := by
  go_enter Try.func39, Try.ntmps39
  go_wp2
  go_ret
  exact ⟨rfl, rfl⟩
theorem sall_any (g cap : Nat) (v : Value) (ws : List Int) (w : World) (c : Cl) (l : ShelfAt w g cap v ws c) : Calls Try.prog 39 #[.pointer (some ⟨g, 0, none⟩)] w (WordsRes w ws) := by
  have C := Lib.hid (clone_any v ws w l.words (by have := l.len; have := l.cap2; omega))
  obtain ⟨a, cp, rfl, h1, h2⟩ := l.words.len
  obtain ⟨c0, c1, c2, cf⟩ := l.hdr.c3
  go_enter Try.func39, Try.ntmps39
  go_wp2_with (go_at_call 72; refine (C.out).mono ?_; rintro e w1 ⟨v1, rfl, h⟩)
  go_ret
  exact ⟨_, rfl, h⟩
end Go.Proofs.Ytfppmdnpjihcpaa
