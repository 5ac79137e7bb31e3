/- One call, of both shelves. -/
import Derived.Test.YtfppmdnpjihcpaaShelfU
namespace Go.Proofs.Ytfppmdnpjihcpaa
open Go.RowKit LinesP
set_option linter.unusedVariables false

/-- What a call hands back, and both shelves behind it. -/
def DoesTo (B : Nat) (w : World) (g h cap : Nat) (r : Int) (went : Bool) (ws : List Int) (cl on : Bool) (e : Ending) (w' : World) : Prop :=
  e = .returned (.tuple #[.int .u64 r, .bool went, .bool true]) ∧ Both B w' g h cap ws cl on ∧ Below B w w' ∧ Marks w w'
section
variable (B : Nat) (w : World) (g h cap : Nat) (ws : List Int) (cl on : Bool) (b : Both B w g h cap ws cl on) (hB : B ≤ w.heap.size) (K x : Int) (hK : 0 ≤ K ∧ K ≤ 255)
include b hB hK
set_option maxRecDepth 100000 in
set_option maxHeartbeats 1000000 in
theorem does_push (hk : K % 6 = 0 ∨ K % 6 = 1) : Calls Try.prog 20 #[.pointer (some ⟨g, 0, none⟩), .pointer (some ⟨h, 0, none⟩), .agg #[.int .u8 K, .int .u64 x]] w
    (DoesTo B w g h cap 0 false (pushL cap ws cl x) cl on) := by
  obtain ⟨v, c, v2, l, rfl, rfl, d, dj, b1, b2⟩ := b
  have hA := Blk.new w 46 #[.int .u8 K, .int .u64 x]
  have hg1 : Gr w (w.alloc (.cells #[.int .u8 K, .int .u64 x] 46)) := (Gr.refl w).al _
  have hnl := l.inn
  have hnd := d.inn
  have hAs : w.heap.size ∉ shFoot g v c := fun hm => by have := hnl _ hm; omega
  have hAd : w.heap.size ∉ dsFoot h v2 := fun hm => by have := hnd _ hm; omega
  replace l := l.gr hg1
  replace d := d.gr hg1
  have hB1 := hg1.size_le
  have C1 := Lib.hid (fun w' (g' : Gr (w.alloc (.cells #[.int .u8 K, .int .u64 x] 46)) w') => upush g cap v ws w' c (l.gr g') x)
  have C2 := Lib.hid (fun w' (d' : DocS w' h cap v2 ws c.is c.isOn) => vpush h cap v2 ws w' c.is c.isOn d' x)
  generalize pushE cap ws c.is = E at C1 C2
  generalize pushL cap ws c.is x = L at C1 C2 ⊢
  rcases hk with hk | hk
  all_goals
    go_enter Try.func20, Try.ntmps20
    go_upto_region 1 with fail
    generalize w.alloc (.cells #[.int .u8 K, .int .u64 x] 46) = W at *
    generalize hAe : w.heap.size = A at hA hAs hAd ⊢
    have HA := Lib.hid hAe
    clear hAe
    obtain ⟨a0, a1, af⟩ := hA.c2
    go_upto_region 4 with fail
    go_region_held3 (fun w' => w'.cell? ⟨A, 1, none⟩ = some (.int .u64 x)) (first | exact a1 | exact y1 | exact z1)
      (first
      | (go_at_call 37; refine (C1.out _ ((Gr.refl W).drew)).mono ?_; rintro e w3 ⟨rfl, t3⟩; have k3 := t3.choose_spec.choose_spec.2.2.2.1; obtain ⟨y0, y1, _⟩ := (hA.drew.ch k3 hAs).c2; have d3 := (d.gr ((Gr.refl W).drew)).ch k3 dj.symm)
      | (go_at_call 38; refine (C2.out _ d3).mono ?_; rintro e w4 ⟨rfl, t4⟩; obtain ⟨z0, z1, _⟩ := ((hA.drew.ch k3 hAs).ch t4.choose_spec.2.1 hAd).c2))
    all_goals
      go_wp2
      go_ret3
      obtain ⟨r1, r2, r3⟩ := Both.step (d.gr ((Gr.refl W).drew)) (l.gr ((Gr.refl W).drew)) dj b1 b2 (by have : W.drew.heap.size = W.heap.size := rfl; omega) t3 t4
      exact ⟨rfl, r1, Below.trans (Below.mono hg1.drew hB) r2, fun G cs hG => r3 G cs (hG.gr hg1.drew)⟩
set_option maxRecDepth 100000 in
set_option maxHeartbeats 1000000 in
theorem does_take (hk : K % 6 = 2) : Calls Try.prog 20 #[.pointer (some ⟨g, 0, none⟩), .pointer (some ⟨h, 0, none⟩), .agg #[.int .u8 K, .int .u64 x]] w
    (DoesTo B w g h cap (tkR ws on) (tkE ws on == 0) (tkL ws on) cl (tkOn ws on)) := by
  obtain ⟨v, c, v2, l, rfl, rfl, d, dj, b1, b2⟩ := b
  have hA := Blk.new w 46 #[.int .u8 K, .int .u64 x]
  have hg1 : Gr w (w.alloc (.cells #[.int .u8 K, .int .u64 x] 46)) := (Gr.refl w).al _
  have hco : c.isOn = true → c.is = true := by cases c <;> simp [Cl.isOn, Cl.is]
  replace l := l.gr hg1
  replace d := d.gr hg1
  have hB1 := hg1.size_le
  have C1 := Lib.hid (utake g cap v ws (w.alloc (.cells #[.int .u8 K, .int .u64 x] 46)) c l)
  have C2 := Lib.hid (fun w' (d' : DocS w' h cap v2 ws c.is c.isOn) => vtake h cap v2 ws w' c.is c.isOn d')
  generalize tkE ws c.isOn = E at C1 C2 ⊢
  generalize tkR ws c.isOn = R at C1 C2 ⊢
  generalize tkL ws c.isOn = L at C1 C2 ⊢
  generalize tkOn ws c.isOn = O at C1 C2 ⊢
  go_enter Try.func20, Try.ntmps20
  go_upto_region 1 with fail
  generalize w.alloc (.cells #[.int .u8 K, .int .u64 x] 46) = W at *
  generalize w.heap.size = A at hA ⊢
  obtain ⟨a0, a1, af⟩ := hA.c2
  go_wp2_with (first
    | (go_at_call 56; refine (C1.out).mono ?_; rintro e w3 ⟨rfl, t3⟩; have k3 := t3.choose_spec.choose_spec.2.2.2.1; have d3 := d.ch k3 dj.symm)
    | (go_at_call 63; refine (C2.out _ d3).mono ?_; rintro e w4 ⟨rfl, t4⟩))
  all_goals
    go_ret3
    obtain ⟨r1, r2, r3⟩ := Both.step d l dj b1 b2 (by omega) t3 t4
    exact ⟨rfl, r1, Below.trans (Below.mono hg1 hB) r2, fun G cs hG => r3 G cs (hG.gr hg1)⟩
set_option maxRecDepth 100000 in
set_option maxHeartbeats 1000000 in
theorem does_snatch (hk : K % 6 = 3) : Calls Try.prog 20 #[.pointer (some ⟨g, 0, none⟩), .pointer (some ⟨h, 0, none⟩), .agg #[.int .u8 K, .int .u64 x]] w
    (DoesTo B w g h cap (snR ws) (snE ws == 0) ws.tail cl (snOn ws on)) := by
  obtain ⟨v, c, v2, l, rfl, rfl, d, dj, b1, b2⟩ := b
  have hA := Blk.new w 46 #[.int .u8 K, .int .u64 x]
  have hg1 : Gr w (w.alloc (.cells #[.int .u8 K, .int .u64 x] 46)) := (Gr.refl w).al _
  have hco : c.isOn = true → c.is = true := by cases c <;> simp [Cl.isOn, Cl.is]
  replace l := l.gr hg1
  replace d := d.gr hg1
  have hB1 := hg1.size_le
  have C1 := Lib.hid (usnatch g cap v ws (w.alloc (.cells #[.int .u8 K, .int .u64 x] 46)) c l)
  have C2 := Lib.hid (fun w' (d' : DocS w' h cap v2 ws c.is c.isOn) => vsnatch h cap v2 ws w' c.is c.isOn d')
  generalize snE ws = E at C1 C2 ⊢
  generalize snR ws = R at C1 C2 ⊢
  generalize ws.tail = L at C1 C2 ⊢
  generalize snOn ws c.isOn = O at C1 C2 ⊢
  go_enter Try.func20, Try.ntmps20
  go_upto_region 1 with fail
  generalize w.alloc (.cells #[.int .u8 K, .int .u64 x] 46) = W at *
  generalize w.heap.size = A at hA ⊢
  obtain ⟨a0, a1, af⟩ := hA.c2
  go_wp2_with (first
    | (go_at_call 57; refine (C1.out).mono ?_; rintro e w3 ⟨rfl, t3⟩; have k3 := t3.choose_spec.choose_spec.2.2.2.1; have d3 := d.ch k3 dj.symm)
    | (go_at_call 64; refine (C2.out _ d3).mono ?_; rintro e w4 ⟨rfl, t4⟩))
  all_goals
    go_ret3
    obtain ⟨r1, r2, r3⟩ := Both.step d l dj b1 b2 (by omega) t3 t4
    exact ⟨rfl, r1, Below.trans (Below.mono hg1 hB) r2, fun G cs hG => r3 G cs (hG.gr hg1)⟩
set_option maxRecDepth 100000 in
set_option maxHeartbeats 1000000 in
theorem does_claim (hk : K % 6 = 4) : Calls Try.prog 20 #[.pointer (some ⟨g, 0, none⟩), .pointer (some ⟨h, 0, none⟩), .agg #[.int .u8 K, .int .u64 x]] w
    (DoesTo B w g h cap 0 false ws true (clOn ws cl on)) := by
  obtain ⟨v, c, v2, l, rfl, rfl, d, dj, b1, b2⟩ := b
  have hA := Blk.new w 46 #[.int .u8 K, .int .u64 x]
  have hg1 : Gr w (w.alloc (.cells #[.int .u8 K, .int .u64 x] 46)) := (Gr.refl w).al _
  have hco : c.isOn = true → c.is = true := by cases c <;> simp [Cl.isOn, Cl.is]
  replace l := l.gr hg1
  replace d := d.gr hg1
  have hB1 := hg1.size_le
  have C1 := Lib.hid (uclaim g cap v ws (w.alloc (.cells #[.int .u8 K, .int .u64 x] 46)) c l)
  have C2 := Lib.hid (fun w' (d' : DocS w' h cap v2 ws c.is c.isOn) => vclaim h cap v2 ws w' c.is c.isOn d')
  generalize clE c.is = E at C1 C2
  generalize clB ws c.is = R at C1 C2
  generalize clOn ws c.is c.isOn = O at C1 C2 ⊢
  go_enter Try.func20, Try.ntmps20
  go_upto_region 1 with fail
  generalize w.alloc (.cells #[.int .u8 K, .int .u64 x] 46) = W at *
  generalize w.heap.size = A at hA ⊢
  obtain ⟨a0, a1, af⟩ := hA.c2
  go_wp2_with (first
    | (go_at_call 58; refine (C1.out).mono ?_; rintro e w3 ⟨rfl, t3⟩; have k3 := t3.choose_spec.choose_spec.2.2.2.1; have d3 := d.ch k3 dj.symm)
    | (go_at_call 65; refine (C2.out _ d3).mono ?_; rintro e w4 ⟨rfl, t4⟩))
  all_goals
    go_ret3
    obtain ⟨r1, r2, r3⟩ := Both.step d l dj b1 b2 (by omega) t3 t4
    exact ⟨rfl, r1, Below.trans (Below.mono hg1 hB) r2, fun G cs hG => r3 G cs (hG.gr hg1)⟩
set_option maxRecDepth 100000 in
set_option maxHeartbeats 1000000 in
theorem does_settle (hk : K % 6 = 5) : Calls Try.prog 20 #[.pointer (some ⟨g, 0, none⟩), .pointer (some ⟨h, 0, none⟩), .agg #[.int .u8 K, .int .u64 x]] w
    (DoesTo B w g h cap (stR ws on) (stE cl on == 0) (stL ws on) false false) := by
  obtain ⟨v, c, v2, l, rfl, rfl, d, dj, b1, b2⟩ := b
  have hA := Blk.new w 46 #[.int .u8 K, .int .u64 x]
  have hg1 : Gr w (w.alloc (.cells #[.int .u8 K, .int .u64 x] 46)) := (Gr.refl w).al _
  have hco : c.isOn = true → c.is = true := by cases c <;> simp [Cl.isOn, Cl.is]
  replace l := l.gr hg1
  replace d := d.gr hg1
  have hB1 := hg1.size_le
  have C1 := Lib.hid (usettle g cap v ws (w.alloc (.cells #[.int .u8 K, .int .u64 x] 46)) c l)
  have C2 := Lib.hid (fun w' (d' : DocS w' h cap v2 ws c.is c.isOn) => vsettle h cap v2 ws w' c.is c.isOn d' hco)
  generalize stE c.is c.isOn = E at C1 C2 ⊢
  generalize stR ws c.isOn = R at C1 C2 ⊢
  generalize stL ws c.isOn = L at C1 C2 ⊢
  go_enter Try.func20, Try.ntmps20
  go_upto_region 1 with fail
  generalize w.alloc (.cells #[.int .u8 K, .int .u64 x] 46) = W at *
  generalize w.heap.size = A at hA ⊢
  obtain ⟨a0, a1, af⟩ := hA.c2
  go_wp2_with (first
    | (go_at_call 59; refine (C1.out).mono ?_; rintro e w3 ⟨rfl, t3⟩; have k3 := t3.choose_spec.choose_spec.2.2.2.1; have d3 := d.ch k3 dj.symm)
    | (go_at_call 66; refine (C2.out _ d3).mono ?_; rintro e w4 ⟨rfl, t4⟩))
  all_goals
    go_ret3
    obtain ⟨r1, r2, r3⟩ := Both.step d l dj b1 b2 (by omega) t3 t4
    exact ⟨rfl, r1, Below.trans (Below.mono hg1 hB) r2, fun G cs hG => r3 G cs (hG.gr hg1)⟩
end
end Go.Proofs.Ytfppmdnpjihcpaa
