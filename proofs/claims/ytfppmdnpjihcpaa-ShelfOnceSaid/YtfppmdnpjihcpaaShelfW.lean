/- The example of chapter 16; rows that are the same; the laws ShelfNil and ShelfPlays, walked. -/
import Derived.Test.YtfppmdnpjihcpaaShelfDoes
namespace Go.Proofs.Ytfppmdnpjihcpaa
open Go.RowKit LinesP
set_option linter.unusedVariables false

/-- A shelf in blocks from B on; below B all is as it was in w0. -/
def Sole (B : Nat) (w0 w : World) (g cap : Nat) (ws : List Int) (is on : Bool) : Prop :=
  ∃ v c, ShelfAt w g cap v ws c ∧ c.is = is ∧ c.isOn = on ∧ (∀ k ∈ shFoot g v c, B ≤ k) ∧ Below B w0 w ∧ B ≤ w.heap.size
theorem Sole.to {B : Nat} {w0 w w' : World} {g cap : Nat} {S : List Nat} {ws' : List Int} {is' on' : Bool} (hS : ∀ k ∈ S, B ≤ k) (hb : Below B w0 w) (hB : B ≤ w.heap.size) (t : ShelfTo w g cap S ws' is' on' w') : Sole B w0 w' g cap ws' is' on' := by
  obtain ⟨v', c', h1, h2, h3, k, f⟩ := t
  have hsz := k.size
  refine ⟨v', c', h1, h2, h3, fun x hx => ?_, Below.trans hb ⟨k.os, k.tape, k.output, hsz, fun x hx => k.block x (by omega) (fun hm => by have := hS x hm; omega)⟩, by omega⟩
  rcases f x hx with h | h
  · exact hS x h
  · omega
section
variable {B : Nat} {w0 w : World} {g cap : Nat} {ws : List Int} {is on : Bool} (s : Sole B w0 w g cap ws is on)
include s
theorem Sole.push (x : Int) : Calls Try.prog 37 #[.pointer (some ⟨g, 0, none⟩), .int .u64 x] w fun e w' => e = .returned (.int .i64 (pushE cap ws is)) ∧ Sole B w0 w' g cap (pushL cap ws is x) is on := by
  obtain ⟨v, c, l, rfl, rfl, h1, h2, h3⟩ := s
  exact (upush g cap v ws w c l x).mono fun e w' ⟨he, t⟩ => ⟨he, Sole.to h1 h2 h3 t⟩
theorem Sole.snatch : Calls Try.prog 57 #[.pointer (some ⟨g, 0, none⟩)] w fun e w' => e = .returned (.tuple #[.int .u64 (snR ws), .int .i64 (snE ws)]) ∧ Sole B w0 w' g cap ws.tail is (snOn ws on) := by
  obtain ⟨v, c, l, rfl, rfl, h1, h2, h3⟩ := s
  exact (usnatch g cap v ws w c l).mono fun e w' ⟨he, t⟩ => ⟨he, Sole.to h1 h2 h3 t⟩
theorem Sole.take : Calls Try.prog 56 #[.pointer (some ⟨g, 0, none⟩)] w fun e w' => e = .returned (.tuple #[.int .u64 (tkR ws on), .int .i64 (tkE ws on)]) ∧ Sole B w0 w' g cap (tkL ws on) is (tkOn ws on) := by
  obtain ⟨v, c, l, rfl, rfl, h1, h2, h3⟩ := s
  exact (utake g cap v ws w c l).mono fun e w' ⟨he, t⟩ => ⟨he, Sole.to h1 h2 h3 t⟩
theorem Sole.claim : Calls Try.prog 58 #[.pointer (some ⟨g, 0, none⟩)] w fun e w' => e = .returned (.tuple #[.bool (clB ws is), .int .i64 (clE is)]) ∧ Sole B w0 w' g cap ws true (clOn ws is on) := by
  obtain ⟨v, c, l, rfl, rfl, h1, h2, h3⟩ := s
  exact (uclaim g cap v ws w c l).mono fun e w' ⟨he, t⟩ => ⟨he, Sole.to h1 h2 h3 t⟩
theorem Sole.settle : Calls Try.prog 59 #[.pointer (some ⟨g, 0, none⟩)] w fun e w' => e = .returned (.tuple #[.int .u64 (stR ws on), .int .i64 (stE is on)]) ∧ Sole B w0 w' g cap (stL ws on) false false := by
  obtain ⟨v, c, l, rfl, rfl, h1, h2, h3⟩ := s
  exact (usettle g cap v ws w c l).mono fun e w' ⟨he, t⟩ => ⟨he, Sole.to h1 h2 h3 t⟩
end
set_option maxRecDepth 100000 in
theorem awake16_any (w : World) : Calls Try.prog 21 #[] w fun e w' => e = .returned (.bool true) ∧ Gr w w' := by
  go_enter Try.func21, Try.ntmps21
  go_wp2_with fail
  refine (shelfNew_any 4 _).mono ?_
  rintro e w1 ⟨rfl, l1, g1, z1⟩
  have s1 : Sole w.heap.size w w1 w.heap.size 4 [] false false := ⟨_, _, l1, rfl, rfl, by simp [shFoot, sb, Cl.bs], g1.below, g1.size_le⟩
  have HB := Lib.hid (show ∃ g : Nat, w.heap.size = g from ⟨_, rfl⟩)
  obtain ⟨g, hg⟩ := HB.out
  rw [hg] at s1 ⊢
  have HG := Lib.hid hg
  clear hg HB l1 g1 z1
  have C2 : Calls Try.prog 37 #[.pointer (some ⟨g, 0, none⟩), .int .u64 5] w1 fun e w' => e = .returned (.int .i64 0) ∧ Sole g w w' g 4 [5] false false := s1.push 5
  clear s1
  go_wp2_with fail
  refine C2.mono ?_
  clear C2
  rintro e w2 ⟨rfl, s2⟩
  have C3 : Calls Try.prog 58 #[.pointer (some ⟨g, 0, none⟩)] w2 fun e w' => e = .returned (.tuple #[.bool true, .int .i64 0]) ∧ Sole g w w' g 4 [5] true true := s2.claim
  clear s2
  go_wp2_with fail
  refine C3.mono ?_
  clear C3
  rintro e w3 ⟨rfl, s3⟩
  have C4 : Calls Try.prog 56 #[.pointer (some ⟨g, 0, none⟩)] w3 fun e w' => e = .returned (.tuple #[.int .u64 0, .int .i64 7]) ∧ Sole g w w' g 4 [5] true true := s3.take
  clear s3
  go_wp2_with fail
  refine C4.mono ?_
  clear C4
  rintro e w4 ⟨rfl, s4⟩
  have C5 : Calls Try.prog 57 #[.pointer (some ⟨g, 0, none⟩)] w4 fun e w' => e = .returned (.tuple #[.int .u64 5, .int .i64 0]) ∧ Sole g w w' g 4 [] true false := s4.snatch
  clear s4
  go_wp2_with fail
  refine C5.mono ?_
  clear C5
  rintro e w5 ⟨rfl, s5⟩
  have C6 : Calls Try.prog 59 #[.pointer (some ⟨g, 0, none⟩)] w5 fun e w' => e = .returned (.tuple #[.int .u64 0, .int .i64 7]) ∧ Sole g w w' g 4 [] false false := s5.settle
  clear s5
  go_wp2_with fail
  refine C6.mono ?_
  clear C6
  rintro e w6 ⟨rfl, s6⟩
  go_wp2
  go_ret
  obtain ⟨v, c, l, h0, h1, h2, h3, h4⟩ := s6
  refine ⟨rfl, ?_⟩
  rw [← HG.out] at h3
  exact h3
theorem slen_nil (w : World) : Calls Try.prog 54 #[.pointer none] w fun e w' => e = .returned (.int .i64 0) ∧ w = w' := by
  go_enter Try.func54, Try.ntmps54
  go_wp2
  go_ret
  exact ⟨rfl, rfl⟩
theorem sclaimed_nil (w : World) : Calls Try.prog 55 #[.pointer none] w fun e w' => e = .returned (.bool false) ∧ w = w' := by
  go_enter Try.func55, Try.ntmps55
  go_wp2
  go_ret
  exact ⟨rfl, rfl⟩
set_option maxRecDepth 100000 in
theorem shelfNil_walk (x : Int) (w : World) (hx : 0 ≤ x ∧ x ≤ 18446744073709551615) : Calls Try.prog 12 #[.int .u64 x] w fun e w' => e = .returned (.bool true) ∧ Gr w w' := by
  clear hx
  go_enter Try.func12, Try.ntmps12
  go_wp2_with (first
    | (go_at_call 56; refine (stake_nil _).mono ?_; rintro e w1 ⟨rfl, rfl⟩)
    | (go_at_call 57; refine (snatch_nil _).mono ?_; rintro e w1 ⟨rfl, rfl⟩)
    | (go_at_call 58; refine (claim_nil _).mono ?_; rintro e w2 ⟨rfl, g2⟩)
    | (go_at_call 59; refine (settle_nil _).mono ?_; rintro e w1 ⟨rfl, rfl⟩)
    | (go_at_call 37; refine (spush_nil _ _).mono ?_; rintro e w1 ⟨rfl, rfl⟩)
    | (go_at_call 54; refine (slen_nil _).mono ?_; rintro e w1 ⟨rfl, rfl⟩)
    | (go_at_call 55; refine (sclaimed_nil _).mono ?_; rintro e w1 ⟨rfl, rfl⟩)
    | (go_at_call 39; refine (sall_nil _).mono ?_; rintro e w1 ⟨rfl, rfl⟩)
    | (go_at_call 21; refine (awake16_any _).mono ?_; rintro e w6 ⟨rfl, g6⟩))
  go_ret
  exact ⟨rfl, g2.tr g6⟩
theorem wsame_any (ws : List Int) (v v2 : Value) (w : World) (s1 : Sl 39 .u64 w v ws) (s2 : Sl 39 .u64 w v2 ws) (hl : ws.length ≤ 1000) : Calls Try.prog 40 #[v, v2] w fun e w' => e = .returned (.bool true) ∧ Gr w w' := by
  obtain ⟨a, cp, rfl, h1, h2, r1⟩ := s1.row
  obtain ⟨a2, cp2, rfl, h12, h22, r2⟩ := s2.row
  have HR := Lib.hid (And.intro r1 r2)
  clear s1 s2 r1 r2
  go_enter Try.func40, Try.ntmps40
  go_wp2
  go_loopw [5] (fun i wr => ∃ k : Nat, k ≤ ws.length ∧ i = .int .i64 k ∧ Gr w wr) (fun i _ => ws.length - (intOf i).toNat)
  case atStart => exact ⟨0, by omega, rfl, Gr.refl w⟩
  case round =>
    obtain ⟨k, hk, rfl, gr⟩ := hrel
    by_cases hlt : k < ws.length
    · rcases HR.out.1 with h0 | ⟨b, off, rfl, hc⟩
      · simp [h0] at hlt
      rcases HR.out.2 with h0 | ⟨b2, off2, rfl, hc2⟩
      · simp [h0] at hlt
      have c1 := gr.cell_some (hc k hlt)
      have c2 := gr.cell_some (hc2 k hlt)
      generalize ws.getD k 0 = z at c1 c2
      clear hc hc2
      have i1 : (0 : Int) ≤ (k : Int) := by omega
      have i2 : (k : Int) < (ws.length : Int) := by omega
      go_wp2_with fail
      go_quiet (fail)
      go_wp2
      go_roundw
      case rel => exact ⟨k + 1, by omega, by go_num, gr.drewN _⟩
      case measure => simp [intOf]; omega
    · obtain rfl : ws.length = k := by omega
      go_wp2
      go_ret
      exact ⟨rfl, gr⟩
theorem does_any (B : Nat) (w : World) (g h cap : Nat) (ws : List Int) (cl on : Bool) (b : Both B w g h cap ws cl on) (hB : B ≤ w.heap.size) (K x : Int) (hK : 0 ≤ K ∧ K ≤ 255) :
    ∃ r went ws' cl' on', Calls Try.prog 20 #[.pointer (some ⟨g, 0, none⟩), .pointer (some ⟨h, 0, none⟩), .agg #[.int .u8 K, .int .u64 x]] w (DoesTo B w g h cap r went ws' cl' on') := by
  have h6 : K % 6 = 0 ∨ K % 6 = 1 ∨ K % 6 = 2 ∨ K % 6 = 3 ∨ K % 6 = 4 ∨ K % 6 = 5 := by omega
  rcases h6 with h6 | h6 | h6 | h6 | h6 | h6
  · exact ⟨_, _, _, _, _, does_push B w g h cap ws cl on b hB K x hK (.inl h6)⟩
  · exact ⟨_, _, _, _, _, does_push B w g h cap ws cl on b hB K x hK (.inr h6)⟩
  · exact ⟨_, _, _, _, _, does_take B w g h cap ws cl on b hB K x hK h6⟩
  · exact ⟨_, _, _, _, _, does_snatch B w g h cap ws cl on b hB K x hK h6⟩
  · exact ⟨_, _, _, _, _, does_claim B w g h cap ws cl on b hB K x hK h6⟩
  · exact ⟨_, _, _, _, _, does_settle B w g h cap ws cl on b hB K x hK h6⟩
/-- Both shelves at the beginning. -/
theorem both_new {w w1 w2 : World} {cap : Nat} (l1 : ShelfAt w1 w.heap.size cap (.slice none 0 0) [] .no) (g1 : Gr w w1) (d2 : DocS w2 w1.heap.size cap (.slice none 0 0) [] false false) (g2 : Gr w1 w2) : Both w.heap.size w2 w.heap.size w1.heap.size cap [] false false := by
  have := g1.size_le
  have h1 := l1.hdr.lt
  refine ⟨_, _, _, l1.gr g2, rfl, rfl, d2, fun k hk => ?_, fun k hk => ?_, fun k hk => ?_⟩
  · simp [shFoot, dsFoot, sb, Cl.bs] at hk ⊢; omega
  · simp [shFoot, sb, Cl.bs] at hk; omega
  · simp [dsFoot, sb] at hk; omega
end Go.Proofs.Ytfppmdnpjihcpaa
