/- The walk of the law RollPlays of chapter 20 (roll): it returns true for every input, and changes nothing that was there. -/
import Derived.Test.YtfppmdnpjihcpaaRollAll
import Derived.Deep.CutBlock
import Derived.Deep.RegionHeld3
namespace Go.Proofs.Ytfppmdnpjihcpaa
open Go.RowKit LinesP
set_option linter.unusedVariables false

theorem own_blk {w : World} {B : Nat} {e : TypeId} {s n : Nat} {v : Value} {xs : List Value} {A : Nat} {t : TypeId} {cs : Array Value} (o : w.ownsRow B e s v n xs) (h : Blk w A t cs) (he : e ≠ t) : some A ≠ v.ownBlock := fun hb => by
  rcases o.2 with ⟨rfl, _⟩ | ⟨g, cap, cur, rfl, _, hg, _⟩
  · cases hb
  · cases hb
    unfold Blk at h
    rw [hg] at h
    cases h
    exact he rfl
theorem own_no {w : World} {B : Nat} {e : TypeId} {s n : Nat} {v : Value} {xs : List Value} (h : w.ownsRow B e s v n xs) {g : Nat} (hg : g < B) : some g ≠ v.ownBlock := fun he => by
  have := (h.lt g he.symm).1
  omega
theorem RollAt.grow {w w' : World} {g h m : Nat} {tk : Nat → Bool} {gn : Nat → Int} {row : Option Nat} (l : RollAt w g h m tk gn) (k : w.grownBy w' row) (h1 : some g ≠ row) (h2 : some h ≠ row) : RollAt w' g h m tk gn :=
  ⟨l.hdr.grown k h1, l.row.grown k h2, l.ne, l.le, l.bd⟩
theorem firstNone {m : Nat} {p : Nat → Bool} (h : ¬ ∃ i, i < m ∧ p i = true ∧ ∀ j, j < i → p j = false) : ∀ j, j < m → p j = false := by
  intro j
  induction j using Nat.strongRecOn with
  | ind j ih =>
    intro hj
    cases hp : p j
    · rfl
    · exact absurd ⟨j, hj, hp, fun i hi => ih i hi (by omega)⟩ h
/-- Where the two rolls lie. -/
structure Lie (w : World) (gp hp gd a b B : Nat) : Prop where
  gpB : gp < B
  hpB : hp < B
  gdB : gd < B
  aB : a < B
  bB : b < B
  n1 : hp ≠ gd ∧ hp ≠ a ∧ hp ≠ b ∧ gp ≠ a ∧ gp ≠ b
  w1 : w.heap.size ≤ hp
  w2 : w.heap.size ≤ a
  w3 : w.heap.size ≤ b
/-- What holds ahead of each round. -/
structure PlayInv (w wr : World) (gp hp gd a b m B : Nat) (vg : Value) (k : Nat) (tk : Nat → Bool) (gn : Nat → Int) (gs : List (Nat × Int)) : Prop where
  l : RollAt wr gp hp m tk gn
  d : DocAt wr gd a b m tk gn
  og : wr.ownsRow B 30 2 vg gs.length (idC gs)
  few : gs.length ≤ k
  ids : ∀ p ∈ gs, p.1 ≤ 64 ∧ 0 ≤ p.2 ∧ p.2 ≤ 4294967295
  gr : Gr w wr
  sz : B ≤ wr.heap.size
def PlayRel (w wr : World) (gp hp gd a b m B : Nat) (vg : Value) (k : Nat) : Prop := ∃ tk gn gs, PlayInv w wr gp hp gd a b m B vg k tk gn gs
theorem PlayInv.more {w wr w' : World} {gp hp gd a b m B : Nat} {vg : Value} {k : Nat} {tk : Nat → Bool} {gn : Nat → Int} {gs : List (Nat × Int)} (i : PlayInv w wr gp hp gd a b m B vg k tk gn gs) (q : Gr wr w') : PlayInv w w' gp hp gd a b m B vg k tk gn gs :=
  ⟨i.l.gr q, i.d.gr q, q.own i.og, i.few, i.ids, i.gr.tr q, by have := i.sz; have := q.size_le; omega⟩

theorem own_ch {w w' : World} {B : Nat} {e : TypeId} {s n : Nat} {v : Value} {xs : List Value} {S : List Nat} (o : w.ownsRow B e s v n xs) (k : Ch S w w') (h : ∀ x ∈ S, x < B) : w'.ownsRow B e s v n xs :=
  k.own o fun b hb hm => by have := (o.lt b hb).1; have := h b hm; omega
theorem PlayInv.chA {w wr w' : World} {gp hp gd a b m B : Nat} {vg : Value} {k : Nat} {tk : Nat → Bool} {gn : Nat → Int} {gs : List (Nat × Int)} {A : Nat} (i : PlayInv w wr gp hp gd a b m B vg k tk gn gs) (L : Lie w gp hp gd a b B) (hA : B ≤ A) (hn : some A ≠ vg.ownBlock) (q : Ch [A] wr w') : PlayInv w w' gp hp gd a b m B vg k tk gn gs := by
  have h1 := L.gpB
  have h2 := L.hpB
  have h3 := L.gdB
  have h4 := L.aB
  have h5 := L.bB
  have h6 := L.w1
  exact ⟨i.l.ch q (by simp; omega) (by simp; omega), i.d.ch q (by simp; omega) (by simp; omega) (by simp; omega), q.own i.og (fun x hx hm => hn (by rw [hx]; simp at hm; rw [hm])), i.few, i.ids, i.gr.chs q (by simp; omega), by have := i.sz; have := q.size; omega⟩

set_option maxRecDepth 100000 in
set_option maxHeartbeats 4000000 in
theorem rollPlays_walk (n : Int) (ar : Option Addr) (len cap : Nat) (F : Nat → Nat → Value) (sl : Int) (w : World) (hn : -9223372036854775808 ≤ n ∧ n ≤ 9223372036854775807) (h : RecsIn Try.prog 79 w ar len cap 4 F) (hsl : -9223372036854775808 ≤ sl ∧ sl ≤ 9223372036854775807) :
    Calls Try.prog 9 #[.int .i64 n, .slice ar len cap, .int .i64 sl] w fun e w' => e = .returned (.bool true) ∧ Gr w w' := by
  obtain ⟨hlen, hcap, hrow, hkind⟩ := h
  have hk0 : ∀ i, i < len → ∃ n, F i 0 = .int .u8 n ∧ 0 ≤ n ∧ n ≤ 255 := fun i hi => by
    obtain ⟨n, h1, h2⟩ := hkind 3 i 0 (some .u8) hi (by omega) (by kernel_rfl); exact ⟨n, h1, bd_u8 h2⟩
  have hk1 : ∀ i, i < len → ∃ n, F i 1 = .int .i64 n ∧ -9223372036854775808 ≤ n ∧ n ≤ 9223372036854775807 := fun i hi => by
    obtain ⟨n, h1, h2⟩ := hkind 3 i 1 (some .i64) hi (by omega) (by kernel_rfl); exact ⟨n, h1, bd_i64 h2⟩
  have hk2 : ∀ i, i < len → ∃ n, F i 2 = .int .u32 n ∧ 0 ≤ n ∧ n ≤ 4294967295 := fun i hi => by
    obtain ⟨n, h1, h2⟩ := hkind 3 i 2 (some .u32) hi (by omega) (by kernel_rfl); exact ⟨n, h1, bd_u32 h2⟩
  have hk3 : ∀ i, i < len → ∃ b, F i 3 = .bool b := fun i hi => hkind 3 i 3 none hi (by omega) (by kernel_rfl)
  have HK := Lib.hid (And.intro hk0 (And.intro hk1 (And.intro hk2 hk3)))
  have HR := Lib.hid hrow
  clear hkind hk0 hk1 hk2 hk3 hrow
  go_enter Try.func9, Try.ntmps9
  go_wp2_with fail
  refine (rollNew_any n _).mono ?_
  rintro e w1 ⟨rfl, l1, g1⟩
  go_wp2_with fail
  refine (docNew_any n _).mono ?_
  rintro e w2 ⟨gd, a, b, rfl, d2, s1, s2, s3, g2⟩
  have l2 := l1.gr g2
  have hr0 : w.heap.size + 1 < w1.heap.size := l1.hdr.lt
  have hz1 := d2.hdr.lt
  have hz2 := d2.rt.lt
  have hz3 := d2.rg.lt
  have L : Lie w (w.heap.size + 1) w.heap.size gd a b w2.heap.size := ⟨by omega, by omega, hz1, hz2, hz3, by omega, by omega, by omega, by omega⟩
  have P0 : PlayRel w w2 (w.heap.size + 1) w.heap.size gd a b (clampI n 0 64).toNat w2.heap.size (.slice none 0 0) 0 :=
    ⟨_, _, [], ⟨l2, d2, World.ownsRow_nil _ _ _ _, by simp, by simp, g1.tr g2, by omega⟩⟩
  clear l1 g1 d2 g2 l2 s1 s2 s3 hz1 hz2 hz3
  generalize (clampI n 0 64).toNat = m at *
  generalize w2.heap.size = B at *
  clear hr0 w1
  generalize w.heap.size + 1 = gp at *
  generalize w.heap.size = hp at L P0
  go_wp2_with fail
  go_loopw [9, 10] (fun vg i wr => ∃ k : Nat, k ≤ len ∧ k ≤ 90 ∧ i = .int .i64 k ∧ PlayRel w wr gp hp gd a b m B vg k) (fun _ i _ => len - (intOf i).toNat)
  case atStart => exact ⟨0, by omega, by omega, rfl, P0⟩
  case round =>
    obtain ⟨k, hk, hk90, rfl, tk, gn, gs, inv⟩ := hrel
    by_cases hlt : k < len
    · have hd : decide ((k : Int) < (len : Int)) = true := by simpa using hlt
      by_cases h90 : k < 90
      · have hd2 : decide ((k : Int) < 90) = true := by simp; omega
        rcases HR.out with h0 | ⟨bz, off, rfl, hc⟩
        · omega
        obtain ⟨kd, e0, hkd⟩ := HK.out.1 k hlt
        obtain ⟨xs, e1, hxs⟩ := HK.out.2.1 k hlt
        obtain ⟨xq, e2, hxq⟩ := HK.out.2.2.1 k hlt
        obtain ⟨old, e3⟩ := HK.out.2.2.2 k hlt
        have c0 := inv.gr.cell_some (hc k 0 hlt (by omega))
        have c1 := inv.gr.cell_some (hc k 1 hlt (by omega))
        have c2 := inv.gr.cell_some (hc k 2 hlt (by omega))
        have c3 := inv.gr.cell_some (hc k 3 hlt (by omega))
        rw [e0] at c0
        rw [e1] at c1
        rw [e2] at c2
        rw [e3] at c3
        clear e0 e1 e2 e3 hc
        simp only [Nat.add_zero] at c0
        have hgl : ∃ ag cg, u9 = .slice ag gs.length cg := by
          rcases own_cells inv.og with ⟨h1, h2⟩ | ⟨bg, cg, h1, _⟩
          · exact ⟨none, 0, by rw [h1, h2]⟩
          · exact ⟨_, cg, h1⟩
        obtain ⟨ag, cg, rfl⟩ := hgl
        go_upto_region 8 with fail
        clear c0 c1 c2 c3
        have hA := Blk.new wr 79 #[.int .u8 kd, .int .i64 xs, .int .u32 xq, .bool old]
        have inv1 := inv.more ((Gr.refl wr).al (.cells #[.int .u8 kd, .int .i64 xs, .int .u32 xq, .bool old] 79))
        have hAB : B ≤ wr.heap.size := inv.sz
        generalize wr.alloc (.cells #[.int .u8 kd, .int .i64 xs, .int .u32 xq, .bool old] 79) = W1 at *
        generalize wr.heap.size = A at *
        clear inv
        obtain ⟨c0, c1, c2, c3, cf⟩ := hA.c4
        obtain ⟨cb, hcb⟩ : ∃ cb : Bool, cb = (old && decide (0 < gs.length) && decide (0 ≤ xs)) := ⟨_, rfl⟩
        go_cut [50] (fun s wx => s = .bool cb ∧ W1 = wx)
        case first =>
          cases old
          · go_wp2_with fail
            go_meet
            case rel => exact ⟨congrArg Value.bool (by rw [hcb]; simp), rfl⟩
          · by_cases h1 : 0 < gs.length
            · have hd3 : decide ((0 : Int) < (gs.length : Int)) = true := by simpa using h1
              go_wp2_with fail
              go_meet
              case rel => exact ⟨congrArg Value.bool (by rw [hcb]; simp [h1]), rfl⟩
            · have hd3 : decide ((0 : Int) < (gs.length : Int)) = false := by simpa using h1
              go_wp2_with fail
              go_meet
              case rel => exact ⟨congrArg Value.bool (by rw [hcb]; simp [h1]), rfl⟩
        case rest =>
          obtain ⟨rfl, rfl⟩ := hcut
          go_upto_if 50 with fail
          go_cut [50] (fun _ wx => ∃ (x q : Int), Blk wx A 79 #[.int .u8 kd, .int .i64 x, .int .u32 q, .bool old] ∧ (-9223372036854775808 ≤ x ∧ x ≤ 9223372036854775807) ∧ (0 ≤ q ∧ q ≤ 4294967295) ∧ Ch [A] W1 wx)
          case first =>
            cases cb
            · go_wp2_with fail
              go_meet
              case rel => exact ⟨xs, xq, hA, hxs, hxq, Ch.refl _ _⟩
            · have hcb' : (old = true ∧ 0 < gs.length) ∧ 0 ≤ xs := by simpa using hcb.symm
              obtain ⟨⟨rfl, hgs⟩, hx0⟩ := hcb'
              clear hcb
              obtain ⟨q, hq⟩ := Int.eq_ofNat_of_zero_le (show 0 ≤ xs % (gs.length : Int) from Int.emod_nonneg _ (by omega))
              have hq' : xs.tmod (gs.length : Int) = (q : Int) := by rw [Int.tmod_eq_emod_of_nonneg hx0]; exact hq
              have hql : q < gs.length := by have := Int.emod_lt_of_pos xs (show (0 : Int) < gs.length by omega); omega
              obtain ⟨bg, cg', hvg, hbg1, hbg2, hcg1, hcg2, hcg, hfg⟩ := (own_cells inv1.og).resolve_left (by rintro ⟨_, h⟩; omega)
              cases hvg
              obtain ⟨⟨ps, pq⟩, hp⟩ : ∃ p, gs[q]? = some p := ⟨_, List.getElem?_eq_getElem hql⟩
              have i0 := hcg _ _ (idC_get gs q _ hp).1
              have i1 := hcg _ _ (idC_get gs q _ hp).2
              have hpq := inv1.ids _ (List.mem_of_getElem? hp)
              simp only at i0 i1 hpq
              clear hcg
              go_wp2_with fail
              go_meet
              case rel =>
                have h1 := (hA.st 1 (.int .i64 ps)).st 2 (.int .u32 pq)
                exact ⟨ps, pq, by simpa using h1, by omega, hpq.2, ((Ch.refl _ _).st (by simp) _).st (by simp) _⟩
          case rest =>
            obtain ⟨x, q, hA2, hx, hq, k2⟩ := hcut
            have HAx := Lib.hid hA
            clear hA c0 c1 c2 c3 cf hcb
            have inv2 : PlayInv w wc gp hp gd a b m B (.slice ag gs.length cg) k tk gn gs := inv1.chA L hAB (own_blk inv1.og HAx.out (by decide)) k2
            clear inv1 k2 HAx
            have hgpB := L.gpB
            have hhpB := L.hpB
            have hgdB := L.gdB
            have haB := L.aB
            have hbB := L.bB
            have hw1 := L.w1
            have hw2 := L.w2
            have hw3 := L.w3
            have hn1 := L.n1
            have hAw := hA2.lt
            obtain ⟨c0, c1, c2, c3, cf⟩ := hA2.c4
            go_upto_block 2 with fail
            clear c0 c1 c2 c3 cf
            have h4 : kd % 4 = 0 ∨ kd % 4 = 1 ∨ kd % 4 = 2 ∨ kd % 4 = 3 := by omega
            generalize kd % 4 = r4 at *
            go_cut [9] (fun vg wx => (∃ tk gn gs, PlayInv w wx gp hp gd a b m B vg (k + 1) tk gn gs) ∧ Blk wx A 79 #[.int .u8 kd, .int .i64 x, .int .u32 q, .bool old])
            case first =>
              rcases h4 with rfl | rfl | rfl | rfl
              · skip
                by_cases ho : ∃ i, i < m ∧ opn tk gn i = true ∧ ∀ j, j < i → opn tk gn j = false
                · obtain ⟨i, him, hio, hib⟩ := ho
                  have hlt1 : gn i < 4294967295 := by simp [opn] at hio; exact hio.2
                  have hbd := inv2.d.bd i
                  have hm64 := inv2.d.le
                  go_wp2_with fail
                  refine (rtk_some gp hp m tk gn _ inv2.l i him hio hib).mono ?_
                  rintro e w3 ⟨rfl, l3, k3⟩
                  unfold idV
                  go_upto_region 16 with fail
                  have s3 := k3.size
                  have l3' := l3.gr ((Gr.refl w3).al (.cells #[.int .i64 i, .int .u32 (gn i + 1)] 30))
                  have d3 := (inv2.d.ch k3 (by simp; omega) (by simp; omega) (by simp; omega)).gr ((Gr.refl w3).al (.cells #[.int .i64 i, .int .u32 (gn i + 1)] 30))
                  have og3 := (own_ch inv2.og k3 (by simp; omega)).alloc (.cells #[.int .i64 i, .int .u32 (gn i + 1)] 30)
                  have hA3 := (hA2.ch k3 (by simp; omega)).al (.cells #[.int .i64 i, .int .u32 (gn i + 1)] 30)
                  have x3 := Blk.new w3 30 #[.int .i64 i, .int .u32 (gn i + 1)]
                  have g3 : Gr w (w3.alloc (.cells #[.int .i64 i, .int .u32 (gn i + 1)] 30)) := (inv2.gr.chs k3 (by simp; omega)).al _
                  have hX3 : B ≤ w3.heap.size := by have := inv2.sz; omega
                  have hsz3 : w3.heap.size ≤ (w3.alloc (.cells #[.int .i64 i, .int .u32 (gn i + 1)] 30)).heap.size := by rw [World.size_alloc]; omega
                  generalize w3.alloc (.cells #[.int .i64 i, .int .u32 (gn i + 1)] 30) = W3 at *
                  generalize w3.heap.size = X3 at *
                  have hfw := inv2.few
                  have hids := inv2.ids
                  clear k3 l3 inv2 s3
                  go_wp2_with fail
                  refine (dtk_some gd a b m tk gn _ d3 i him hio hib).mono ?_
                  rintro e w4 ⟨rfl, d4, k4⟩
                  unfold idV
                  clear d3 hio hib
                  go_upto_region 17 with fail
                  have s4 := k4.size
                  have l4 := (l3'.ch k4 (by simp; omega) (by simp; omega)).gr ((Gr.refl w4).al (.cells #[.int .i64 i, .int .u32 (gn i + 1)] 30))
                  have d4' := d4.gr ((Gr.refl w4).al (.cells #[.int .i64 i, .int .u32 (gn i + 1)] 30))
                  have og4 := (own_ch og3 k4 (by simp; omega)).alloc (.cells #[.int .i64 i, .int .u32 (gn i + 1)] 30)
                  have hA4 := (hA3.ch k4 (by simp; omega)).al (.cells #[.int .i64 i, .int .u32 (gn i + 1)] 30)
                  have x34 := (x3.ch k4 (by simp; omega)).al (.cells #[.int .i64 i, .int .u32 (gn i + 1)] 30)
                  have x4 := Blk.new w4 30 #[.int .i64 i, .int .u32 (gn i + 1)]
                  have g4 : Gr w (w4.alloc (.cells #[.int .i64 i, .int .u32 (gn i + 1)] 30)) := (g3.chs k4 (by simp; omega)).al _
                  have hsz4 : w4.heap.size ≤ (w4.alloc (.cells #[.int .i64 i, .int .u32 (gn i + 1)] 30)).heap.size := by rw [World.size_alloc]; omega
                  generalize w4.alloc (.cells #[.int .i64 i, .int .u32 (gn i + 1)] 30) = W4 at *
                  generalize w4.heap.size = X4 at *
                  clear k4 d4 l3' og3 hA3 x3 g3
                  obtain ⟨p0, p1, _⟩ := x34.c2
                  obtain ⟨r0, r1, _⟩ := x4.c2
                  go_wp2_with (at_builtin; refine wpList_app1 elI (.tmp 102) (.tmp 104) B _ _ _ _ _ _ rfl rfl rfl rfl og4 rfl rfl ?_ ?_ ?_ ?_)
                  · omega
                  · omega
                  · omega
                  intro v5 w5 og5 gr5
                  have s5 := gr5.size
                  rw [show idC gs ++ #[Value.int IntKind.i64 i, Value.int IntKind.u32 (gn i + 1)].toList = idC (gs ++ [(i, gn i + 1)]) by rw [idC_snoc]] at og5
                  have l5 := l4.grow gr5 (own_no og4 hgpB) (own_no og4 hhpB)
                  have d5 := d4'.grown gr5 (own_no og4 hgdB) (own_no og4 haB) (own_no og4 hbB)
                  have hA5 := hA4.grown gr5 (own_blk og4 hA4 (by decide))
                  have g5 : Gr w w5 := g4.grown gr5 (fun q hq => by have := (og4.lt q hq).1; omega)
                  clear og4 l4 d4' gr5 p0 p1 r0 r1
                  go_wp2_with fail
                  go_meet
                  case rel =>
                    refine ⟨⟨_, _, gs ++ [(i, gn i + 1)], ⟨l5, d5, by simpa using og5, by simp; omega, ?_, g5, by omega⟩⟩, hA5⟩
                    intro p hp
                    rw [List.mem_append] at hp
                    rcases hp with hp | hp
                    · exact hids p hp
                    · simp at hp; subst hp; simp only; omega
                · have hno : ∀ j, j < m → opn tk gn j = false := firstNone ho
                  clear ho
                  go_wp2_with fail
                  refine (rtk_none gp hp m tk gn _ inv2.l hno).mono ?_
                  rintro e w3 ⟨rfl, g3⟩
                  unfold idV
                  go_upto_region 16 with fail
                  have inv3 := inv2.more (g3.al (.cells #[.int .i64 0, .int .u32 0] 30))
                  have hA3 := (hA2.gr g3).al (.cells #[.int .i64 0, .int .u32 0] 30)
                  have x3 := Blk.new w3 30 #[.int .i64 0, .int .u32 0]
                  generalize w3.alloc (.cells #[.int .i64 0, .int .u32 0] 30) = W3 at *
                  generalize w3.heap.size = X3 at *
                  clear g3 inv2
                  go_wp2_with fail
                  refine (dtk_none gd a b m tk gn _ inv3.d hno).mono ?_
                  rintro e w4 ⟨rfl, g4⟩
                  unfold idV
                  go_upto_region 17 with fail
                  have inv4 := inv3.more (g4.al (.cells #[.int .i64 0, .int .u32 0] 30))
                  have hA4 := (hA3.gr g4).al (.cells #[.int .i64 0, .int .u32 0] 30)
                  have x34 := (x3.gr g4).al (.cells #[.int .i64 0, .int .u32 0] 30)
                  have x4 := Blk.new w4 30 #[.int .i64 0, .int .u32 0]
                  generalize w4.alloc (.cells #[.int .i64 0, .int .u32 0] 30) = W4 at *
                  generalize w4.heap.size = X4 at *
                  clear g4 inv3 hA3 x3
                  obtain ⟨p0, p1, _⟩ := x34.c2
                  obtain ⟨r0, r1, _⟩ := x4.c2
                  have hsz := inv4.sz
                  have hfw := inv4.few
                  have og4 := inv4.og
                  go_wp2_with (at_builtin; refine wpList_app1 elI (.tmp 102) (.tmp 104) B _ _ _ _ _ _ rfl rfl rfl rfl og4 rfl rfl ?_ ?_ ?_ ?_)
                  · omega
                  · omega
                  · omega
                  intro v5 w5 og5 gr5
                  have s5 := gr5.size
                  rw [show idC gs ++ #[Value.int IntKind.i64 0, Value.int IntKind.u32 0].toList = idC (gs ++ [(0, 0)]) by rw [idC_snoc]; rfl] at og5
                  have l5 := inv4.l.grow gr5 (own_no og4 hgpB) (own_no og4 hhpB)
                  have d5 := inv4.d.grown gr5 (own_no og4 hgdB) (own_no og4 haB) (own_no og4 hbB)
                  have hA5 := hA4.grown gr5 (own_blk og4 hA4 (by decide))
                  have g5 : Gr w w5 := inv4.gr.grown gr5 (fun q hq => by have := (og4.lt q hq).1; omega)
                  have hids := inv4.ids
                  clear og4 inv4 gr5 p0 p1 r0 r1
                  go_wp2_with fail
                  go_meet
                  case rel =>
                    refine ⟨⟨_, _, gs ++ [(0, 0)], ⟨l5, d5, by simpa using og5, by simp; omega, ?_, g5, by omega⟩⟩, hA5⟩
                    intro p hp
                    rw [List.mem_append] at hp
                    rcases hp with hp | hp
                    · exact hids p hp
                    · simp at hp; subst hp; simp
              · skip
                by_cases ho : ∃ i, i < m ∧ opn tk gn i = true ∧ ∀ j, j < i → opn tk gn j = false
                · obtain ⟨i, him, hio, hib⟩ := ho
                  have hlt1 : gn i < 4294967295 := by simp [opn] at hio; exact hio.2
                  have hbd := inv2.d.bd i
                  have hm64 := inv2.d.le
                  go_wp2_with fail
                  refine (rtk_some gp hp m tk gn _ inv2.l i him hio hib).mono ?_
                  rintro e w3 ⟨rfl, l3, k3⟩
                  unfold idV
                  go_upto_region 16 with fail
                  have s3 := k3.size
                  have l3' := l3.gr ((Gr.refl w3).al (.cells #[.int .i64 i, .int .u32 (gn i + 1)] 30))
                  have d3 := (inv2.d.ch k3 (by simp; omega) (by simp; omega) (by simp; omega)).gr ((Gr.refl w3).al (.cells #[.int .i64 i, .int .u32 (gn i + 1)] 30))
                  have og3 := (own_ch inv2.og k3 (by simp; omega)).alloc (.cells #[.int .i64 i, .int .u32 (gn i + 1)] 30)
                  have hA3 := (hA2.ch k3 (by simp; omega)).al (.cells #[.int .i64 i, .int .u32 (gn i + 1)] 30)
                  have x3 := Blk.new w3 30 #[.int .i64 i, .int .u32 (gn i + 1)]
                  have g3 : Gr w (w3.alloc (.cells #[.int .i64 i, .int .u32 (gn i + 1)] 30)) := (inv2.gr.chs k3 (by simp; omega)).al _
                  have hX3 : B ≤ w3.heap.size := by have := inv2.sz; omega
                  have hsz3 : w3.heap.size ≤ (w3.alloc (.cells #[.int .i64 i, .int .u32 (gn i + 1)] 30)).heap.size := by rw [World.size_alloc]; omega
                  generalize w3.alloc (.cells #[.int .i64 i, .int .u32 (gn i + 1)] 30) = W3 at *
                  generalize w3.heap.size = X3 at *
                  have hfw := inv2.few
                  have hids := inv2.ids
                  clear k3 l3 inv2 s3
                  go_wp2_with fail
                  refine (dtk_some gd a b m tk gn _ d3 i him hio hib).mono ?_
                  rintro e w4 ⟨rfl, d4, k4⟩
                  unfold idV
                  clear d3 hio hib
                  go_upto_region 17 with fail
                  have s4 := k4.size
                  have l4 := (l3'.ch k4 (by simp; omega) (by simp; omega)).gr ((Gr.refl w4).al (.cells #[.int .i64 i, .int .u32 (gn i + 1)] 30))
                  have d4' := d4.gr ((Gr.refl w4).al (.cells #[.int .i64 i, .int .u32 (gn i + 1)] 30))
                  have og4 := (own_ch og3 k4 (by simp; omega)).alloc (.cells #[.int .i64 i, .int .u32 (gn i + 1)] 30)
                  have hA4 := (hA3.ch k4 (by simp; omega)).al (.cells #[.int .i64 i, .int .u32 (gn i + 1)] 30)
                  have x34 := (x3.ch k4 (by simp; omega)).al (.cells #[.int .i64 i, .int .u32 (gn i + 1)] 30)
                  have x4 := Blk.new w4 30 #[.int .i64 i, .int .u32 (gn i + 1)]
                  have g4 : Gr w (w4.alloc (.cells #[.int .i64 i, .int .u32 (gn i + 1)] 30)) := (g3.chs k4 (by simp; omega)).al _
                  have hsz4 : w4.heap.size ≤ (w4.alloc (.cells #[.int .i64 i, .int .u32 (gn i + 1)] 30)).heap.size := by rw [World.size_alloc]; omega
                  generalize w4.alloc (.cells #[.int .i64 i, .int .u32 (gn i + 1)] 30) = W4 at *
                  generalize w4.heap.size = X4 at *
                  clear k4 d4 l3' og3 hA3 x3 g3
                  obtain ⟨p0, p1, _⟩ := x34.c2
                  obtain ⟨r0, r1, _⟩ := x4.c2
                  go_wp2_with (at_builtin; refine wpList_app1 elI (.tmp 102) (.tmp 104) B _ _ _ _ _ _ rfl rfl rfl rfl og4 rfl rfl ?_ ?_ ?_ ?_)
                  · omega
                  · omega
                  · omega
                  intro v5 w5 og5 gr5
                  have s5 := gr5.size
                  rw [show idC gs ++ #[Value.int IntKind.i64 i, Value.int IntKind.u32 (gn i + 1)].toList = idC (gs ++ [(i, gn i + 1)]) by rw [idC_snoc]] at og5
                  have l5 := l4.grow gr5 (own_no og4 hgpB) (own_no og4 hhpB)
                  have d5 := d4'.grown gr5 (own_no og4 hgdB) (own_no og4 haB) (own_no og4 hbB)
                  have hA5 := hA4.grown gr5 (own_blk og4 hA4 (by decide))
                  have g5 : Gr w w5 := g4.grown gr5 (fun q hq => by have := (og4.lt q hq).1; omega)
                  clear og4 l4 d4' gr5 p0 p1 r0 r1
                  go_wp2_with fail
                  go_meet
                  case rel =>
                    refine ⟨⟨_, _, gs ++ [(i, gn i + 1)], ⟨l5, d5, by simpa using og5, by simp; omega, ?_, g5, by omega⟩⟩, hA5⟩
                    intro p hp
                    rw [List.mem_append] at hp
                    rcases hp with hp | hp
                    · exact hids p hp
                    · simp at hp; subst hp; simp only; omega
                · have hno : ∀ j, j < m → opn tk gn j = false := firstNone ho
                  clear ho
                  go_wp2_with fail
                  refine (rtk_none gp hp m tk gn _ inv2.l hno).mono ?_
                  rintro e w3 ⟨rfl, g3⟩
                  unfold idV
                  go_upto_region 16 with fail
                  have inv3 := inv2.more (g3.al (.cells #[.int .i64 0, .int .u32 0] 30))
                  have hA3 := (hA2.gr g3).al (.cells #[.int .i64 0, .int .u32 0] 30)
                  have x3 := Blk.new w3 30 #[.int .i64 0, .int .u32 0]
                  generalize w3.alloc (.cells #[.int .i64 0, .int .u32 0] 30) = W3 at *
                  generalize w3.heap.size = X3 at *
                  clear g3 inv2
                  go_wp2_with fail
                  refine (dtk_none gd a b m tk gn _ inv3.d hno).mono ?_
                  rintro e w4 ⟨rfl, g4⟩
                  unfold idV
                  go_upto_region 17 with fail
                  have inv4 := inv3.more (g4.al (.cells #[.int .i64 0, .int .u32 0] 30))
                  have hA4 := (hA3.gr g4).al (.cells #[.int .i64 0, .int .u32 0] 30)
                  have x34 := (x3.gr g4).al (.cells #[.int .i64 0, .int .u32 0] 30)
                  have x4 := Blk.new w4 30 #[.int .i64 0, .int .u32 0]
                  generalize w4.alloc (.cells #[.int .i64 0, .int .u32 0] 30) = W4 at *
                  generalize w4.heap.size = X4 at *
                  clear g4 inv3 hA3 x3
                  obtain ⟨p0, p1, _⟩ := x34.c2
                  obtain ⟨r0, r1, _⟩ := x4.c2
                  have hsz := inv4.sz
                  have hfw := inv4.few
                  have og4 := inv4.og
                  go_wp2_with (at_builtin; refine wpList_app1 elI (.tmp 102) (.tmp 104) B _ _ _ _ _ _ rfl rfl rfl rfl og4 rfl rfl ?_ ?_ ?_ ?_)
                  · omega
                  · omega
                  · omega
                  intro v5 w5 og5 gr5
                  have s5 := gr5.size
                  rw [show idC gs ++ #[Value.int IntKind.i64 0, Value.int IntKind.u32 0].toList = idC (gs ++ [(0, 0)]) by rw [idC_snoc]; rfl] at og5
                  have l5 := inv4.l.grow gr5 (own_no og4 hgpB) (own_no og4 hhpB)
                  have d5 := inv4.d.grown gr5 (own_no og4 hgdB) (own_no og4 haB) (own_no og4 hbB)
                  have hA5 := hA4.grown gr5 (own_blk og4 hA4 (by decide))
                  have g5 : Gr w w5 := inv4.gr.grown gr5 (fun q hq => by have := (og4.lt q hq).1; omega)
                  have hids := inv4.ids
                  clear og4 inv4 gr5 p0 p1 r0 r1
                  go_wp2_with fail
                  go_meet
                  case rel =>
                    refine ⟨⟨_, _, gs ++ [(0, 0)], ⟨l5, d5, by simpa using og5, by simp; omega, ?_, g5, by omega⟩⟩, hA5⟩
                    intro p hp
                    rw [List.mem_append] at hp
                    rcases hp with hp | hp
                    · exact hids p hp
                    · simp at hp; subst hp; simp
              · skip
                obtain ⟨hf1, hf2⟩ := And.intro inv2.few inv2.sz
                have hAd : Blk wc.drew A 79 #[.int .u8 kd, .int .i64 x, .int .u32 q, .bool old] := hA2
                have ld : RollAt wc.drew gp hp m tk gn := inv2.l.gr (Gr.refl _).drew
                have dd : DocAt wc.drew gd a b m tk gn := inv2.d.gr (Gr.refl _).drew
                have ogd : wc.drew.ownsRow B 30 2 (.slice ag gs.length cg) gs.length (idC gs) := (Gr.refl wc).drew.own inv2.og
                have gd' : Gr w wc.drew := inv2.gr.drew
                have hdsz : wc.drew.heap.size = wc.heap.size := rfl
                have hids := inv2.ids
                obtain ⟨c0, c1, c2, c3, cf⟩ := hA2.c4
                by_cases hb : hasB m tk gn x q = true
                · obtain ⟨i, rfl, him, hti, hgi⟩ := hasB_iff.1 hb
                  have C1 := Lib.hid (rfree_yes gp hp m tk gn i q wc.drew ld hb)
                  have C2 := Lib.hid (fun w' (d' : DocAt w' gd a b m tk gn) => dfree_yes gd a b m tk gn w' d' i q hb)
                  unfold idV at C1 C2
                  clear hb
                  go_upto_region 21 with fail
                  go_region_held3 (fun w' => w'.cell? ⟨A, 1, none⟩ = some (.int .i64 i) ∧ w'.cell? ⟨A, 2, none⟩ = some (.int .u32 q)) (first | exact ⟨c1, c2⟩ | exact ⟨z1, z2⟩ | exact ⟨y1, y2⟩)
                    (first
                    | (go_at_call 14; refine (C1.out).mono ?_; rintro e w3 ⟨rfl, l3, k3⟩; obtain ⟨y0, y1, y2, y3, _⟩ := (hAd.ch k3 (by simp; omega)).c4)
                    | (go_at_call 43; refine (C2.out _ (dd.ch k3 (by simp; omega) (by simp; omega) (by simp; omega))).mono ?_; rintro e w4 ⟨rfl, d4, k4⟩; obtain ⟨z0, z1, z2, z3, _⟩ := ((hAd.ch k3 (by simp; omega)).ch k4 (by simp; omega)).c4))
                  all_goals
                    go_wp2_with fail
                    go_meet
                    case rel =>
                      have s3 := k3.size
                      have s4 := k4.size
                      exact ⟨⟨_, _, gs, ⟨l3.ch k4 (by simp; omega) (by simp; omega), d4, own_ch (own_ch ogd k3 (by simp; omega)) k4 (by simp; omega), by omega, hids, (gd'.chs k3 (by simp; omega)).chs k4 (by simp; omega), by omega⟩⟩, (hAd.ch k3 (by simp; omega)).ch k4 (by simp; omega)⟩
                · have hb' : hasB m tk gn x q = false := by simpa using hb
                  have C1 := Lib.hid (rfree_no gp hp m tk gn x q wc.drew ld hb')
                  have C2 := Lib.hid (fun w' (d' : DocAt w' gd a b m tk gn) => dfree_no gd a b m tk gn w' d' x q hb')
                  unfold idV at C1 C2
                  clear hb hb'
                  go_upto_region 21 with fail
                  go_region_held3 (fun w' => w'.cell? ⟨A, 1, none⟩ = some (.int .i64 x) ∧ w'.cell? ⟨A, 2, none⟩ = some (.int .u32 q)) (first | exact ⟨c1, c2⟩ | exact ⟨z1, z2⟩ | exact ⟨y1, y2⟩)
                    (first
                    | (go_at_call 14; refine (C1.out).mono ?_; rintro e w3 ⟨rfl, g3⟩; obtain ⟨y0, y1, y2, y3, _⟩ := (hAd.gr g3).c4)
                    | (go_at_call 43; refine (C2.out _ (dd.gr g3)).mono ?_; rintro e w4 ⟨rfl, g4⟩; obtain ⟨z0, z1, z2, z3, _⟩ := ((hAd.gr g3).gr g4).c4))
                  all_goals
                    go_wp2_with fail
                    go_meet
                    case rel =>
                      have i4 := inv2.more (((Gr.refl _).drew.tr g3).tr g4)
                      exact ⟨⟨_, _, gs, ⟨i4.l, i4.d, i4.og, by omega, hids, i4.gr, i4.sz⟩⟩, (hAd.gr g3).gr g4⟩
              · skip
                obtain ⟨hf1, hf2⟩ := And.intro inv2.few inv2.sz
                have hAd : Blk wc.drew A 79 #[.int .u8 kd, .int .i64 x, .int .u32 q, .bool old] := hA2
                have ld : RollAt wc.drew gp hp m tk gn := inv2.l.gr (Gr.refl _).drew
                have dd : DocAt wc.drew gd a b m tk gn := inv2.d.gr (Gr.refl _).drew
                have ogd : wc.drew.ownsRow B 30 2 (.slice ag gs.length cg) gs.length (idC gs) := (Gr.refl wc).drew.own inv2.og
                have gd' : Gr w wc.drew := inv2.gr.drew
                have hdsz : wc.drew.heap.size = wc.heap.size := rfl
                have hids := inv2.ids
                obtain ⟨c0, c1, c2, c3, cf⟩ := hA2.c4
                by_cases hb : ∃ i : Nat, x = i ∧ i < m ∧ tk i = false ∧ gn i ≤ q
                · obtain ⟨i, rfl, him, hti, hgi⟩ := hb
                  have C1 := Lib.hid (rjump_yes gp hp m tk gn wc.drew ld i q him hti hgi hq.2)
                  have C2 := Lib.hid (fun w' (d' : DocAt w' gd a b m tk gn) => djump_yes gd a b m tk gn w' d' i q him hti hgi hq.2)
                  clear hgi hti
                  go_upto_region 11 with fail
                  go_region_held3 (fun w' => w'.cell? ⟨A, 1, none⟩ = some (.int .i64 i) ∧ w'.cell? ⟨A, 2, none⟩ = some (.int .u32 q)) (first | exact ⟨c1, c2⟩ | exact ⟨z1, z2⟩ | exact ⟨y1, y2⟩)
                    (first
                    | (go_at_call 44; refine (C1.out).mono ?_; rintro e w3 ⟨rfl, l3, k3⟩; obtain ⟨y0, y1, y2, y3, _⟩ := (hAd.ch k3 (by simp; omega)).c4)
                    | (go_at_call 45; refine (C2.out _ (dd.ch k3 (by simp; omega) (by simp; omega) (by simp; omega))).mono ?_; rintro e w4 ⟨rfl, d4, k4⟩; obtain ⟨z0, z1, z2, z3, _⟩ := ((hAd.ch k3 (by simp; omega)).ch k4 (by simp; omega)).c4))
                  all_goals
                    go_wp2_with fail
                    go_meet
                    case rel =>
                      have s3 := k3.size
                      have s4 := k4.size
                      exact ⟨⟨_, _, gs, ⟨l3.ch k4 (by simp; omega) (by simp; omega), d4, own_ch (own_ch ogd k3 (by simp; omega)) k4 (by simp; omega), by omega, hids, (gd'.chs k3 (by simp; omega)).chs k4 (by simp; omega), by omega⟩⟩, (hAd.ch k3 (by simp; omega)).ch k4 (by simp; omega)⟩
                · have hb' : ¬ (0 ≤ x ∧ x < m) ∨ ∃ i : Nat, x = i ∧ i < m ∧ (tk i = true ∨ q < gn i) := by
                    by_cases h0 : 0 ≤ x ∧ x < m
                    · obtain ⟨i, rfl⟩ := Int.eq_ofNat_of_zero_le h0.1
                      refine .inr ⟨i, rfl, by omega, ?_⟩
                      cases ht : tk i
                      · right
                        by_cases hg : gn i ≤ q
                        · exact absurd ⟨i, rfl, by omega, ht, hg⟩ hb
                        · omega
                      · exact .inl rfl
                    · exact .inl h0
                  have C1 := Lib.hid ((rjump_no gp hp m tk gn wc.drew ld x q hb').mono (fun e w' h => And.intro h.1 (show Gr wc.drew w' from h.2 ▸ Gr.refl _)))
                  have C2 := Lib.hid (fun w' (d' : DocAt w' gd a b m tk gn) => (djump_no gd a b m tk gn w' d' x q hb').mono (fun e w'' h => And.intro h.1 (show Gr w' w'' from h.2 ▸ Gr.refl _)))
                  clear hb hb'
                  go_upto_region 11 with fail
                  go_region_held3 (fun w' => w'.cell? ⟨A, 1, none⟩ = some (.int .i64 x) ∧ w'.cell? ⟨A, 2, none⟩ = some (.int .u32 q)) (first | exact ⟨c1, c2⟩ | exact ⟨z1, z2⟩ | exact ⟨y1, y2⟩)
                    (first
                    | (go_at_call 44; refine (C1.out).mono ?_; rintro e w3 ⟨rfl, g3⟩; obtain ⟨y0, y1, y2, y3, _⟩ := (hAd.gr g3).c4)
                    | (go_at_call 45; refine (C2.out _ (dd.gr g3)).mono ?_; rintro e w4 ⟨rfl, g4⟩; obtain ⟨z0, z1, z2, z3, _⟩ := ((hAd.gr g3).gr g4).c4))
                  all_goals
                    go_wp2_with fail
                    go_meet
                    case rel =>
                      have i4 := inv2.more (((Gr.refl _).drew.tr g3).tr g4)
                      exact ⟨⟨_, _, gs, ⟨i4.l, i4.d, i4.og, by omega, hids, i4.gr, i4.sz⟩⟩, (hAd.gr g3).gr g4⟩
            case rest =>
              obtain ⟨⟨tk', gn', gs', inv3⟩, hA3⟩ := hcut
              clear inv2 hA2
              have CA : ∃ (y z : Int) (t : Bool), (∀ w', Gr wc w' → Calls Try.prog 46 #[.pointer (some ⟨gp, 0, none⟩), .int .i64 sl] w' fun e w'' => e = .returned (.tuple #[idV y z, .bool t]) ∧ Gr w' w'') ∧
                  ∀ w', Gr wc w' → Calls Try.prog 47 #[.pointer (some ⟨gd, 0, none⟩), .int .i64 sl] w' fun e w'' => e = .returned (.tuple #[idV y z, .bool t]) ∧ Gr w' w'' := by
                by_cases hy : ∃ i : Nat, sl = i ∧ i < m ∧ tk' i = true
                · obtain ⟨i, rfl, hi, ht⟩ := hy
                  exact ⟨i, gn' i, true, fun w' g' => rat_yes gp hp m tk' gn' i w' (inv3.l.gr g') hi ht, fun w' g' => dat_yes gd a b m tk' gn' w' (inv3.d.gr g') i hi ht⟩
                · have hno : ¬ (0 ≤ sl ∧ sl < m) ∨ ∃ i : Nat, sl = i ∧ i < m ∧ tk' i = false := by
                    by_cases h0 : 0 ≤ sl ∧ sl < m
                    · obtain ⟨i, rfl⟩ := Int.eq_ofNat_of_zero_le h0.1
                      refine .inr ⟨i, rfl, by omega, ?_⟩
                      cases ht : tk' i
                      · rfl
                      · exact absurd ⟨i, rfl, by omega, ht⟩ hy
                    · exact .inl h0
                  exact ⟨0, 0, false, fun w' g' => rat_no _ sl w' (.inr ⟨gp, hp, m, tk', gn', rfl, inv3.l.gr g', hno⟩), fun w' g' => dat_no gd a b m tk' gn' w' (inv3.d.gr g') sl hno⟩
              obtain ⟨y, z, t, ca1, ca2⟩ := CA
              unfold idV at ca1 ca2
              have CA1 := Lib.hid ca1
              have CA2 := Lib.hid ca2
              clear ca1 ca2
              go_upto_region 25 with (first
                | (go_at_call 46; refine (CA1.out _ (Gr.refl _)).mono ?_; rintro e w3 ⟨rfl, g3⟩)
                | (go_at_call 47; refine (CA2.out _ (g3.al _)).mono ?_; rintro e w4 ⟨rfl, g4⟩))
              have g5 : Gr wc (w4.alloc (.cells #[.int .i64 y, .int .u32 z] 30)) := ((g3.al _).tr g4).al _
              have b3 := ((Blk.new w3 30 #[.int .i64 y, .int .u32 z]).gr g4).al (.cells #[.int .i64 y, .int .u32 z] 30)
              have b5 := Blk.new w4 30 #[.int .i64 y, .int .u32 z]
              generalize w4.alloc (.cells #[.int .i64 y, .int .u32 z] 30) = W5 at *
              generalize w4.heap.size = X5 at *
              generalize w3.heap.size = X3 at *
              have inv4 := inv3.more g5
              have hA4 := hA3.gr g5
              clear g3 g4 g5 CA1 CA2 hA3 inv3 hsl
              obtain ⟨p0, p1, _⟩ := b3.c2
              obtain ⟨r0, r1, _⟩ := b5.c2
              obtain ⟨c0, c1, c2, c3, _⟩ := hA4.c4
              have C16 := Lib.hid (fun w' (g' : Gr W5 w') => rhs_any gp hp m tk' gn' x q w' (inv4.l.gr g'))
              have C48 := Lib.hid (fun w' (g' : Gr W5 w') => dhas_any gd a b m tk' gn' w' (inv4.d.gr g') x q)
              have C50 := Lib.hid (fun w' (g' : Gr W5 w') => rall_any gp hp m tk' gn' w' (inv4.l.gr g'))
              have C51 := Lib.hid (fun w' (g' : Gr W5 w') => dall_any gd a b m tk' gn' w' (inv4.d.gr g'))
              have C52 := Lib.hid (fun w' (g' : Gr W5 w') => rroom_any gp hp m tk' gn' w' (inv4.l.gr g'))
              have C53 := Lib.hid (fun w' (g' : Gr W5 w') => droom_any gd a b m tk' gn' w' (inv4.d.gr g'))
              unfold idV at C16 C48
              go_cut [162] (fun s wx => s = .bool false ∧ Gr W5 wx)
              case first =>
                generalize hasB m tk' gn' x q = hb at C16 C48
                generalize roomN tk' gn' m = rm at C52 C53
                generalize allIds tk' gn' m = al at C50 C51
                clear inv4
                cases hb
                all_goals
                  go_region_held3 (fun w' => w'.cell? ⟨A, 1, none⟩ = some (.int .i64 x) ∧ w'.cell? ⟨A, 2, none⟩ = some (.int .u32 q) ∧ w'.cell? ⟨X3, 0, none⟩ = some (.int .i64 y) ∧ w'.cell? ⟨X3, 1, none⟩ = some (.int .u32 z) ∧ w'.cell? ⟨X5, 0, none⟩ = some (.int .i64 y) ∧ w'.cell? ⟨X5, 1, none⟩ = some (.int .u32 z))
                    (first | exact ⟨c1, c2, p0, p1, r0, r1⟩ | exact ⟨hh7.cell_some c1, hh7.cell_some c2, hh7.cell_some p0, hh7.cell_some p1, hh7.cell_some r0, hh7.cell_some r1⟩ | exact ⟨hh6.cell_some c1, hh6.cell_some c2, hh6.cell_some p0, hh6.cell_some p1, hh6.cell_some r0, hh6.cell_some r1⟩ | exact ⟨hh5.cell_some c1, hh5.cell_some c2, hh5.cell_some p0, hh5.cell_some p1, hh5.cell_some r0, hh5.cell_some r1⟩ | exact ⟨hh4.cell_some c1, hh4.cell_some c2, hh4.cell_some p0, hh4.cell_some p1, hh4.cell_some r0, hh4.cell_some r1⟩ | exact ⟨hh3.cell_some c1, hh3.cell_some c2, hh3.cell_some p0, hh3.cell_some p1, hh3.cell_some r0, hh3.cell_some r1⟩ | exact ⟨hh2.cell_some c1, hh2.cell_some c2, hh2.cell_some p0, hh2.cell_some p1, hh2.cell_some r0, hh2.cell_some r1⟩ | exact ⟨hh1.cell_some c1, hh1.cell_some c2, hh1.cell_some p0, hh1.cell_some p1, hh1.cell_some r0, hh1.cell_some r1⟩)
                    (first
                    | (go_at_call 16; refine (C16.out _ ((Gr.refl _).drew)).mono ?_; rintro e v1 ⟨rfl, h1⟩; have hh1 := ((Gr.refl W5).drew).tr h1)
                    | (go_at_call 48; refine (C48.out _ hh1).mono ?_; rintro e v2 ⟨rfl, h2⟩; have hh2 := hh1.tr h2)
                    | (go_at_call 50; refine (C50.out _ hh2).mono ?_; rintro e v3 ⟨z3, rfl, o3, h3⟩; have hh3 := hh2.tr h3)
                    | (go_at_call 51; refine (C51.out _ hh3).mono ?_; rintro e v4 ⟨z4, rfl, o4, h4⟩; have hh4 := hh3.tr h4; have o34 := h4.own o3)
                    | (go_at_call 49; refine (dsame_any al _ _ _ _ _ o34 o4).mono ?_; rintro e v5 ⟨rfl, h5⟩; have hh5 := hh4.tr h5)
                    | (go_at_call 52; refine (C52.out _ hh5).mono ?_; rintro e v6 ⟨rfl, h6⟩; have hh6 := hh5.tr h6)
                    | (go_at_call 53; refine (C53.out _ hh6).mono ?_; rintro e v7 ⟨rfl, h7⟩; have hh7 := hh6.tr h7))
                  all_goals
                    go_wp2_with fail
                    go_meet
                    case rel => exact ⟨rfl, hh7⟩
              case rest =>
                obtain ⟨rfl, g6⟩ := hcut
                have inv5 := inv4.more g6
                go_wp2_with fail
                go_roundw
                case rel => exact ⟨k + 1, by omega, by omega, by go_num, tk', gn', gs', inv5⟩
                case measure => simp [intOf]; omega
      · have hd2 : decide ((k : Int) < 90) = false := by simp; omega
        go_wp2_with (go_at_call 17; refine (awake20_any _).mono ?_; rintro e w9 ⟨rfl, g9⟩)
        go_ret
        exact ⟨rfl, inv.gr.tr g9⟩
    · have hd : decide ((k : Int) < (len : Int)) = false := by simpa using hlt
      go_wp2_with (go_at_call 17; refine (awake20_any _).mono ?_; rintro e w9 ⟨rfl, g9⟩)
      go_ret
      exact ⟨rfl, inv.gr.tr g9⟩
end Go.Proofs.Ytfppmdnpjihcpaa
