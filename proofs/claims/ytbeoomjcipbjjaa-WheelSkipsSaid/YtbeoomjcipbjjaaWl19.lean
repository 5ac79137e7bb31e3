/- The document's All (chapter 19): a row into which each timer is put at its place. -/
import Derived.Test.YtbeoomjcipbjjaaWl18
namespace Go.Proofs.Ytbeoomjcipbjjaa
open Go.RowKit
set_option linter.unusedVariables false

instance (s : TS) (x y : Nat) : Decidable (aheadT s x y) := by unfold aheadT; infer_instance
/-- The document's wheel, whatever its time. -/
structure DX (w : World) (r : Nat) (s : TS) : Prop where
  hdr : Arr w r 41 130 (dcF s)
  one : ∀ p q, s.no p = s.no q → s.no p ≠ 0 → p = q
theorem DW.dx {w : World} {r : Nat} {s : TS} (m : DW w r s) : DX w r s := ⟨m.hdr, m.tg.one⟩
theorem DX.gr {w w' : World} {r : Nat} {s : TS} (m : DX w r s) (k : Gr w w') : DX w' r s := ⟨m.hdr.gr k, m.one⟩
theorem dcAt {w : World} {r : Nat} {s : TS} (m : Arr w r 41 130 (dcF s)) {p : Nat} (hp : p < 64) : w.cell? ⟨r, 1 + p * 2, none⟩ = some (.int .u64 (s.du p)) ∧ w.cell? ⟨r, 1 + p * 2 + 1, none⟩ = some (.int .u64 (s.no p)) := by
  constructor
  · rw [m.cell (by omega), show 1 + p * 2 = p * 2 + 1 by omega]
    show some (if p * 2 < 128 then _ else _) = _
    rw [if_pos (by omega), if_pos (by omega), show p * 2 / 2 = p by omega]
  · rw [m.cell (by omega), show 1 + p * 2 + 1 = (p * 2 + 1) + 1 by omega]
    show some (if p * 2 + 1 < 128 then _ else _) = _
    rw [if_pos (by omega), if_neg (by omega), show (p * 2 + 1) / 2 = p by omega]
theorem DX.tm {w : World} {r : Nat} {s : TS} (m : DX w r s) {p : Nat} (hp : p < 64) : w.cell? ⟨r, 1 + p * 2, none⟩ = some (.int .u64 (s.du p)) ∧ w.cell? ⟨r, 1 + p * 2 + 1, none⟩ = some (.int .u64 (s.no p)) := dcAt m.hdr hp
/-- The row of the first i places. -/
def UpTo (s : TS) (i : Nat) (l : List Int) : Prop := l.Pairwise (fun x y => aheadT s x.toNat y.toNat) ∧ ∀ x : Int, x ∈ l ↔ ∃ p : Nat, x = p ∧ p < i ∧ s.no p ≠ 0
theorem aheadT_trans {s : TS} {x y z : Nat} (h : aheadT s x y) (k : aheadT s y z) : aheadT s x z := by
  unfold aheadT at *; omega
theorem UpTo.nil (s : TS) : UpTo s 0 [] := ⟨List.Pairwise.nil, fun x => ⟨fun h => by simp at h, fun ⟨p, _, h, _⟩ => by omega⟩⟩
theorem UpTo.len {s : TS} {i : Nat} {l : List Int} (h : UpTo s i l) (hi : i ≤ 64) : l.length ≤ 64 := nodup_le 64 _ (h.1.imp fun {a b} hab => by rintro rfl; unfold aheadT at hab; omega) (fun x hx => by
  obtain ⟨p, rfl, h1, _⟩ := (h.2 x).1 hx; omega)
theorem UpTo.skip {s : TS} {i : Nat} {l : List Int} (h : UpTo s i l) (h0 : s.no i = 0) : UpTo s (i + 1) l :=
  ⟨h.1, fun x => ⟨fun hx => by obtain ⟨p, h1, h2, h3⟩ := (h.2 x).1 hx; exact ⟨p, h1, by omega, h3⟩, fun ⟨p, h1, h2, h3⟩ => by
    by_cases e : p = i
    · subst e; exact absurd h0 h3
    · exact (h.2 x).2 ⟨p, h1, by omega, h3⟩⟩⟩
theorem UpTo.at_ {s : TS} {i : Nat} {l : List Int} (h : UpTo s i l) {k : Nat} (hk : k < l.length) : ∃ p : Nat, l.getD k 0 = p ∧ p < i ∧ s.no p ≠ 0 := by
  have e : l.getD k 0 = l[k] := by simp [List.getD, hk]
  rw [e]
  exact (h.2 _).1 (List.getElem_mem hk)
theorem UpTo.put {s : TS} (t1 : ∀ p q, s.no p = s.no q → s.no p ≠ 0 → p = q) {i : Nat} {l : List Int} (h : UpTo s i l) (h0 : s.no i ≠ 0) {k : Nat} (hk : k ≤ l.length) (ha : ∀ j, j < k → aheadT s (l.getD j 0).toNat i) (hn : ¬ (k < l.length ∧ aheadT s (l.getD k 0).toNat i)) :
    UpTo s (i + 1) (l.take k ++ [(i : Int)] ++ l.drop k) := by
  have hge : ∀ x ∈ l.drop k, aheadT s i x.toNat := by
    by_cases hkl : k < l.length
    · have hna : ¬ aheadT s (l.getD k 0).toNat i := fun e => hn ⟨hkl, e⟩
      obtain ⟨p, hp, hpi, hp0⟩ := h.at_ hkl
      rw [hp, Int.toNat_natCast] at hna
      have hip : aheadT s i p := by
        unfold aheadT at hna ⊢
        have : s.no i ≠ s.no p := fun e => by have := t1 i p e h0; omega
        omega
      intro x hx
      rw [List.drop_eq_getElem_cons hkl] at hx
      have e : l[k] = (p : Int) := by rw [← hp]; simp [List.getD, hkl]
      rcases List.mem_cons.1 hx with rfl | hx
      · rw [e, Int.toNat_natCast]; exact hip
      · have hd := h.1.sublist (List.drop_sublist k l)
        rw [List.drop_eq_getElem_cons hkl, List.pairwise_cons] at hd
        have := hd.1 x hx
        rw [e, Int.toNat_natCast] at this
        exact aheadT_trans hip this
    · rw [List.drop_eq_nil_of_le (by omega)]; simp
  have hlt : ∀ x ∈ l.take k, aheadT s x.toNat i := fun x hx => by
    obtain ⟨j, hj, rfl⟩ := List.mem_iff_getElem.1 hx
    have hj2 : j < k ∧ j < l.length := by rw [List.length_take] at hj; omega
    have := ha j hj2.1
    rw [show l.getD j 0 = l[j]'hj2.2 by simp [List.getD, hj2.2]] at this
    simpa using this
  constructor
  · rw [List.append_assoc, List.pairwise_append]
    refine ⟨h.1.sublist (List.take_sublist k l), ?_, fun x hx y hy => ?_⟩
    · rw [List.singleton_append, List.pairwise_cons]
      exact ⟨fun y hy => by rw [Int.toNat_natCast]; exact hge y hy, h.1.sublist (List.drop_sublist k l)⟩
    · rw [List.singleton_append] at hy
      rcases List.mem_cons.1 hy with rfl | hy
      · rw [Int.toNat_natCast]; exact hlt x hx
      · exact aheadT_trans (hlt x hx) (hge y hy)
  · intro x
    have hm : x ∈ l ↔ x ∈ l.take k ∨ x ∈ l.drop k := by rw [← List.mem_append, List.take_append_drop]
    constructor
    · intro hx
      simp only [List.mem_append, List.mem_singleton] at hx
      rcases hx with (hx | rfl) | hx
      · obtain ⟨p, h1, h2, h3⟩ := (h.2 x).1 (hm.2 (.inl hx)); exact ⟨p, h1, by omega, h3⟩
      · exact ⟨i, rfl, by omega, h0⟩
      · obtain ⟨p, h1, h2, h3⟩ := (h.2 x).1 (hm.2 (.inr hx)); exact ⟨p, h1, by omega, h3⟩
    · rintro ⟨p, rfl, h2, h3⟩
      simp only [List.mem_append, List.mem_singleton]
      by_cases e : p = i
      · subst e; exact .inl (.inr rfl)
      · rcases hm.1 ((h.2 p).2 ⟨p, rfl, by omega, h3⟩) with hx | hx
        · exact .inl (.inl hx)
        · exact .inr hx
theorem Sl.drop {e : TypeId} {k : IntKind} {w : World} {zs : List Int} {b off cp : Nat} (h : Sl e k w (.slice (some ⟨b, off, none⟩) zs.length cp) zs) (n : Nat) (hn : n ≤ zs.length) : Sl e k w (.slice (some ⟨b, off + n, none⟩) (zs.length - n) (cp - n)) (zs.drop n) := by
  obtain ⟨a, cp', he, h1, h2, h3⟩ := h
  injection he with e1 e2 e3
  subst e1 e3
  have hl : (zs.drop n).length = zs.length - n := List.length_drop
  rcases h3 with ⟨h3, _⟩ | ⟨b', off', cur, h3, h5, h6, h7⟩
  · cases h3
  · injection h3 with h3
    injection h3 with h3 h4
    subst h3 h4
    refine ⟨_, cp - n, by rw [hl], by omega, by omega, .inr ⟨b, _, cur, rfl, h5, by omega, fun j y hj => ?_⟩⟩
    rw [List.getElem?_drop] at hj
    have := h7 (n + j) y hj
    rwa [show off + n + j = off + (n + j) by omega]
theorem Sl.none_at {e : TypeId} {k : IntKind} {w : World} {zs : List Int} {b off cp c : Nat} (h : Sl e k w (.slice (some ⟨b, off, none⟩) zs.length cp) zs) (hc : c = 0) : Sl e k w (.slice (some ⟨b, off, none⟩) c c) [] := by
  subst hc
  obtain ⟨a, cp', he, h1, h2, h3⟩ := h
  injection he with e1 e2 e3
  subst e1 e3
  rcases h3 with ⟨h3, _⟩ | ⟨b', off', cur, h3, h5, h6, h7⟩
  · cases h3
  · exact ⟨_, 0, rfl, by simp, by omega, .inr ⟨b', off', cur, h3, h5, by omega, fun j y hj => by simp at hj⟩⟩
set_option maxRecDepth 100000 in
set_option maxHeartbeats 2000000 in
theorem dall (r : Nat) (s : TS) (w : World) (m : DX w r s) : Calls Try.prog 50 #[.pointer (some ⟨r, 0, none⟩)] w fun e w' => ∃ v l, e = .returned v ∧ IsAll s l ∧ Sl 3 .i64 w' v l ∧ Gr w w' := by
  have M := Lib.hid m
  clear m
  go_enter Try.func50, Try.ntmps50
  go_wp2_with fail
  go_loopw [3, 4, 5, 6] (fun v i _ _ wr => ∃ (q : Nat) (l : List Int), q ≤ 64 ∧ i = .int .i64 q ∧ Sl 3 .i64 wr v l ∧ UpTo s q l ∧ Gr w wr ∧ Foot w [] (sb v)) (fun _ i _ _ _ => 64 - (intOf i).toNat)
  case atStart => exact ⟨0, [], by omega, rfl, Sl.nil _ _ _, UpTo.nil s, Gr.refl _, fun b hb => by simp [sb] at hb⟩
  case round =>
    obtain ⟨q, l, hq, rfl, hsl, hup, gr, fv⟩ := hrel
    have hlen := hup.len hq
    obtain ⟨na, ka, rfl, _, _⟩ := hsl.len
    have HS := Lib.hid (And.intro hsl (And.intro hup (And.intro gr fv)))
    clear hsl hup gr fv
    by_cases hlt : q < 64
    · have i1 : (q : Int) < 64 := by omega
      obtain ⟨c2, c3⟩ := (M.out.gr HS.out.2.2.1).tm hlt
      by_cases hn : s.no q = 0
      · have HU := Lib.hid (HS.out.2.1.skip hn)
        rw [hn] at c3
        clear hn c2
        go_wp2_with fail
        go_roundw
        case rel => exact ⟨q + 1, l, by omega, by go_num, HS.out.1, HU.out, HS.out.2.2.1, HS.out.2.2.2⟩
        case measure => simp [intOf]; omega
      · have e1 : (s.no q == 0) = false := by simpa using hn
        have HN := Lib.hid hn
        clear hn
        go_wp2_with fail
        obtain ⟨W1, rfl⟩ : ∃ W1, W1 = wr := ⟨_, rfl⟩
        go_loopw [5] (fun i wx => ∃ k : Nat, k ≤ l.length ∧ i = .int .i64 k ∧ Gr W1 wx ∧ ∀ j, j < k → aheadT s (l.getD j 0).toNat q) (fun i _ => l.length - (intOf i).toNat)
        case atStart => exact ⟨0, by omega, rfl, Gr.refl _, fun j hj => by omega⟩
        case round =>
          obtain ⟨k, hk, rfl, gr, hah⟩ := hrel
          have HX := Lib.hid (And.intro gr hah)
          clear gr hah
          go_upto_region 7 with fail
          go_cut [40] from 19 to 42 (fun c wx => c = .bool (decide (k < l.length ∧ aheadT s (l.getD k 0).toNat q)) ∧ Gr W1 wx)
          case first =>
            by_cases hkl : k < l.length
            · have j1 : (k : Int) < (l.length : Int) := by omega
              have RS := HS.out.1.gr HX.out.1
              obtain ⟨bl, o, c, he, _, _, hc, _, _⟩ := RS.cells (by omega)
              cases he
              obtain ⟨p, hp1, hp2, hp3⟩ := HS.out.2.1.at_ hkl
              have c1 := hc k hkl
              rw [hp1] at c1
              have hp64 : p < 64 := by omega
              obtain ⟨c4, c5⟩ := (M.out.gr (HS.out.2.2.1.tr HX.out.1)).tm hp64
              obtain ⟨c6, c7⟩ := (M.out.gr (HS.out.2.2.1.tr HX.out.1)).tm hlt
              have HE := Lib.hid (show decide (k < l.length ∧ aheadT s (l.getD k 0).toNat q) = decide (s.du p < s.du q ∨ (s.du p = s.du q ∧ s.no p < s.no q)) by
                rw [hp1, Int.toNat_natCast]; simp [hkl, aheadT])
              have CA := Lib.hid (fun w' => ahead_any (s.du p) (s.no p) (s.du q) (s.no q) w')
              generalize s.du p = y1 at *
              generalize s.no p = y2 at *
              generalize s.du q = y3 at *
              generalize s.no q = y4 at *
              have i2 : (p : Int) < 64 := by omega
              clear hc RS hp1 hp2 hp3 c2 c3 e1
              go_region_held3 (fun w' => w'.cell? ⟨bl, o + k, none⟩ = some (.int .i64 p) ∧ w'.cell? ⟨r, 1 + p * 2, none⟩ = some (.int .u64 y1) ∧ w'.cell? ⟨r, 1 + p * 2 + 1, none⟩ = some (.int .u64 y2) ∧ w'.cell? ⟨r, 1 + q * 2, none⟩ = some (.int .u64 y3) ∧ w'.cell? ⟨r, 1 + q * 2 + 1, none⟩ = some (.int .u64 y4))
                (first | exact ⟨c1, c4, c5, c6, c7⟩ | exact ⟨G2.out.cell_some c1, G2.out.cell_some c4, G2.out.cell_some c5, G2.out.cell_some c6, G2.out.cell_some c7⟩)
                (first | (go_at_call 63; refine (CA.out _).mono ?_; rintro e w1 ⟨rfl, g1⟩; have G2 := Lib.hid (((Gr.refl _).drew).tr g1)))
              all_goals
                go_wp2
                go_meet
                case rel => exact ⟨by rw [HE.out]; simp [Bool.decide_or, Bool.decide_and], HX.out.1.tr G2.out⟩
            · obtain rfl : k = l.length := by omega
              have j1 : decide ((l.length : Int) < (l.length : Int)) = false := by simp
              have j2 : decide (l.length < l.length) = false := by simp
              have HE := Lib.hid (show decide (l.length < l.length ∧ aheadT s (l.getD l.length 0).toNat q) = false by simp)
              clear c2 c3 e1 hkl
              go_wp2_with fail
              go_quiet (fail)
              go_wp2
              go_meet
              case rel => exact ⟨by rw [HE.out], HX.out.1.drewN _⟩
          case rest =>
            obtain ⟨rfl, g3⟩ := hcut
            by_cases hc : k < l.length ∧ aheadT s (l.getD k 0).toNat q
            · rw [decide_eq_true hc]
              have HC := Lib.hid hc
              have HG := Lib.hid g3
              clear hc g3
              go_wp2_with fail
              go_roundw
              case rel =>
                have := HC.out
                exact ⟨k + 1, by omega, by go_num, HG.out, fun j hj => by
                  by_cases e : j = k
                  · subst e; exact this.2
                  · exact HX.out.2 j (by omega)⟩
              case measure => have := HC.out; simp [intOf]; omega
            · rw [decide_eq_false hc]
              have HP := Lib.hid (HS.out.2.1.put M.out.one HN.out hk HX.out.2 hc)
              have S1 := Lib.hid (HS.out.1.gr g3)
              have HG := Lib.hid (And.intro (HS.out.2.2.1.tr g3) (HS.out.2.2.2))
              clear hc g3 HX c2 c3 e1
              have he1 : Sl 3 .i64 (wc.alloc (.cells #[] 3)) (.slice (some ⟨wc.heap.size, 0, none⟩) 0 0) [] := ⟨_, 0, rfl, by simp, by omega, .inr ⟨_, 0, #[], rfl, Blk.new wc 3 _, by simp, by simp⟩⟩
              have HA1 := Lib.hid (S1.out.gr ((Gr.refl wc).al (.cells #[] 3)))
              have HA0 := Lib.hid (And.intro ((Gr.refl wc).al (.cells #[] 3)) (show Foot wc [] (sb (.slice (some ⟨wc.heap.size, 0, none⟩) 0 0)) from fun b hb => .inr (by simp [sb] at hb; omega)))
              have htk : (l.take k).length = k := by rw [List.length_take]; omega
              have hdr : (l.drop k).length = l.length - k := List.length_drop
              have hz : na = none ∧ ka = 0 ∨ ∃ b off, na = some ⟨b, off, none⟩ := by
                obtain ⟨a, cp, he, _, _, h3⟩ := S1.out
                injection he with e1 e2 e3
                subst e1 e3
                rcases h3 with h | ⟨b, off, _, h, _⟩
                · exact .inl h
                · exact .inr ⟨b, off, h⟩
              rcases hz with ⟨rfl, rfl⟩ | ⟨b, off, rfl⟩
              · obtain rfl : l = [] := List.eq_nil_of_length_eq_zero (by omega)
                obtain rfl : k = 0 := by simpa using hk
                simp only [List.length_nil] at *
                go_wp2_with (first
                  | (at_builtin; refine wpList_slA el30 .i64 (.tmp 43) (.tmp 46) (.slice (some ⟨wc.heap.size, 0, none⟩) 0 0) (.slice none 0 0) [] ([]) _ rfl rfl rfl rfl he1 (Sl.nil _ _ _) (by simp <;> omega) (by simp <;> omega) ?_; intro v1 w1 s1 k1 f1; simp only [List.nil_append] at s1; have H1 := Lib.hid (And.intro s1 (And.intro (HA0.out.1.new k1 HA0.out.2) (HA0.out.2.tr f1 HA0.out.1.size_le))); clear s1 k1 f1)
                  | (at_builtin; refine wpList_sl1 el30 .i64 (.tmp 48) (.tmp 50) v1 ([]) (q : Int) _ _ rfl rfl rfl rfl H1.out.1 (by simp <;> omega) (by simp <;> omega) ?_; intro v2 w2 s2 k2 f2; have H2 := Lib.hid (And.intro s2 (And.intro (H1.out.2.1.new k2 H1.out.2.2) (H1.out.2.2.tr f2 H1.out.2.1.size_le))); have SD := Lib.hid (Sl.nil 3 .i64 w2); clear s2 k2 f2)
                  | (at_builtin; refine wpList_slA el30 .i64 (.tmp 52) (.tmp 55) v2 (.slice none 0 0) ([] ++ [(q : Int)]) ([]) _ rfl rfl rfl rfl H2.out.1 SD.out (by simp <;> omega) (by simp <;> omega) ?_; intro v3 w3 s3 k3 f3; have H3 := Lib.hid (And.intro s3 (And.intro (H2.out.2.1.new k3 H2.out.2.2) (H2.out.2.2.tr f3 H2.out.2.1.size_le))); clear s3 k3 f3))
                go_roundw
                case rel => exact ⟨q + 1, [] ++ [(q : Int)] ++ [], by omega, by go_num, H3.out.1, HP.out, HG.out.1.tr H3.out.2.1, fun b hb => .inr (by rcases H3.out.2.2 b hb with h | h; simp at h; exact Nat.le_trans HG.out.1.size_le h)⟩
                case measure => simp [intOf]; omega
              · have HT := Lib.hid (HA1.out.take k hk)
                have hlk : k ≤ ka := by omega
                by_cases hkk : ka = k
                · subst hkk
                  have hd0 : l.drop ka = [] := List.drop_eq_nil_of_le (by omega)
                  have hl0 : l.length - ka = 0 := by omega
                  rw [hd0] at HP
                  go_wp2_with (first
                    | (at_builtin; refine wpList_slA el30 .i64 (.tmp 43) (.tmp 46) (.slice (some ⟨wc.heap.size, 0, none⟩) 0 0) (.slice (some ⟨b, off, none⟩) ka ka) [] (l.take ka) _ rfl rfl rfl rfl he1 HT.out (by simp <;> omega) (by simp <;> omega) ?_; intro v1 w1 s1 k1 f1; simp only [List.nil_append] at s1; have H1 := Lib.hid (And.intro s1 (And.intro (HA0.out.1.new k1 HA0.out.2) (HA0.out.2.tr f1 HA0.out.1.size_le))); clear s1 k1 f1)
                    | (at_builtin; refine wpList_sl1 el30 .i64 (.tmp 48) (.tmp 50) v1 (l.take ka) (q : Int) _ _ rfl rfl rfl rfl H1.out.1 (by simp <;> omega) (by simp <;> omega) ?_; intro v2 w2 s2 k2 f2; have H2 := Lib.hid (And.intro s2 (And.intro (H1.out.2.1.new k2 H1.out.2.2) (H1.out.2.2.tr f2 H1.out.2.1.size_le))); have SD := Lib.hid ((S1.out.gr H2.out.2.1).none_at (c := 0) rfl); clear s2 k2 f2)
                    | (at_builtin; refine wpList_slA el30 .i64 (.tmp 52) (.tmp 55) v2 (.slice (some ⟨b, off, none⟩) 0 0) (l.take ka ++ [(q : Int)]) ([]) _ rfl rfl rfl rfl H2.out.1 SD.out (by simp <;> omega) (by simp <;> omega) ?_; intro v3 w3 s3 k3 f3; have H3 := Lib.hid (And.intro s3 (And.intro (H2.out.2.1.new k3 H2.out.2.2) (H2.out.2.2.tr f3 H2.out.2.1.size_le))); clear s3 k3 f3))
                  go_roundw
                  case rel => exact ⟨q + 1, l.take ka ++ [(q : Int)] ++ [], by omega, by go_num, H3.out.1, HP.out, HG.out.1.tr H3.out.2.1, fun b hb => .inr (by rcases H3.out.2.2 b hb with h | h; simp at h; exact Nat.le_trans HG.out.1.size_le h)⟩
                  case measure => simp [intOf]; omega
                · go_wp2_with (first
                    | (at_builtin; refine wpList_slA el30 .i64 (.tmp 43) (.tmp 46) (.slice (some ⟨wc.heap.size, 0, none⟩) 0 0) (.slice (some ⟨b, off, none⟩) k ka) [] (l.take k) _ rfl rfl rfl rfl he1 HT.out (by simp <;> omega) (by simp <;> omega) ?_; intro v1 w1 s1 k1 f1; simp only [List.nil_append] at s1; have H1 := Lib.hid (And.intro s1 (And.intro (HA0.out.1.new k1 HA0.out.2) (HA0.out.2.tr f1 HA0.out.1.size_le))); clear s1 k1 f1)
                    | (at_builtin; refine wpList_sl1 el30 .i64 (.tmp 48) (.tmp 50) v1 (l.take k) (q : Int) _ _ rfl rfl rfl rfl H1.out.1 (by simp <;> omega) (by simp <;> omega) ?_; intro v2 w2 s2 k2 f2; have H2 := Lib.hid (And.intro s2 (And.intro (H1.out.2.1.new k2 H1.out.2.2) (H1.out.2.2.tr f2 H1.out.2.1.size_le))); have SD := Lib.hid ((S1.out.gr H2.out.2.1).drop k hk); clear s2 k2 f2)
                    | (at_builtin; refine wpList_slA el30 .i64 (.tmp 52) (.tmp 55) v2 (.slice (some ⟨b, off + k, none⟩) (l.length - k) (ka - k)) (l.take k ++ [(q : Int)]) (l.drop k) _ rfl rfl rfl rfl H2.out.1 SD.out (by simp <;> omega) (by simp <;> omega) ?_; intro v3 w3 s3 k3 f3; have H3 := Lib.hid (And.intro s3 (And.intro (H2.out.2.1.new k3 H2.out.2.2) (H2.out.2.2.tr f3 H2.out.2.1.size_le))); clear s3 k3 f3))
                  go_roundw
                  case rel => exact ⟨q + 1, l.take k ++ [(q : Int)] ++ l.drop k, by omega, by go_num, H3.out.1, HP.out, HG.out.1.tr H3.out.2.1, fun b hb => .inr (by rcases H3.out.2.2 b hb with h | h; simp at h; exact Nat.le_trans HG.out.1.size_le h)⟩
                  case measure => simp [intOf]; omega
    · obtain rfl : q = 64 := by omega
      go_wp2_with fail
      go_ret
      exact ⟨_, l, rfl, HS.out.2.1, HS.out.1, HS.out.2.2.1⟩
end Go.Proofs.Ytbeoomjcipbjjaa
