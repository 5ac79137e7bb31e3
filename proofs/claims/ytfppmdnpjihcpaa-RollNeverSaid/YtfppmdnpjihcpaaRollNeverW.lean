/- The walk of the law RollNever of chapter 20 (roll): it returns true for every input, and changes nothing that was there. -/
import Derived.Test.YtfppmdnpjihcpaaRollP
namespace Go.Proofs.Ytfppmdnpjihcpaa
open Go.RowKit LinesP
set_option linter.unusedVariables false

def idCells (gs : List (Nat × Int)) : List Value := gs.flatMap fun p => [.int .i64 p.1, .int .u32 p.2]
def boolCells (bs : List Bool) : List Value := bs.map Value.bool
theorem idCells_snoc (gs : List (Nat × Int)) (p : Nat × Int) : idCells (gs ++ [p]) = idCells gs ++ [.int .i64 p.1, .int .u32 p.2] := by simp [idCells]
theorem boolCells_snoc (bs : List Bool) (b : Bool) : boolCells (bs ++ [b]) = boolCells bs ++ [.bool b] := by simp [boolCells]
theorem boolCells_set (bs : List Bool) (k : Nat) (b : Bool) : boolCells (bs.set k b) = (boolCells bs).set k (.bool b) := by simp [boolCells, List.map_set]
theorem boolCells_get {bs : List Bool} {k : Nat} {b : Bool} (h : bs[k]? = some b) : (boolCells bs)[k]? = some (.bool b) := by simp [boolCells, h]
theorem idCells_get : ∀ (gs : List (Nat × Int)) (k : Nat) (p : Nat × Int), gs[k]? = some p → (idCells gs)[k * 2]? = some (.int .i64 p.1) ∧ (idCells gs)[k * 2 + 1]? = some (.int .u32 p.2) := by
  intro gs
  induction gs with
  | nil => intro k p h; simp at h
  | cons q gs ih =>
    intro k p h
    cases k with
    | zero => simp at h; subst h; exact ⟨rfl, rfl⟩
    | succ k =>
      simp at h
      have := ih k p h
      rw [show (k + 1) * 2 = k * 2 + 2 by omega]
      exact ⟨this.1, this.2⟩
theorem set_same {α : Type} {l : List α} {k : Nat} {b : α} (h : l[k]? = some b) : l.set k b = l := by
  obtain ⟨h1, rfl⟩ := List.getElem?_eq_some_iff.1 h
  exact List.set_getElem_self h1
theorem own_sep {w : World} {B B' : Nat} {e e' : TypeId} {s s' n n' : Nat} {v v' : Value} {xs xs' : List Value} (h : w.ownsRow B e s v n xs) (h' : w.ownsRow B' e' s' v' n' xs') (he : e ≠ e') : ∀ b, v.ownBlock = some b → v'.ownBlock ≠ some b := by
  intro b hb hb'
  rcases h.2 with ⟨rfl, _⟩ | ⟨g, cap, cur, rfl, _, hg, _⟩
  · cases hb
  rcases h'.2 with ⟨rfl, _⟩ | ⟨g', cap', cur', rfl, _, hg', _⟩
  · cases hb'
  cases hb
  cases hb'
  rw [hg] at hg'
  cases hg'
  exact he rfl
theorem own_sep2 {w : World} {B B' : Nat} {e e' : TypeId} {s s' n n' : Nat} {v v' : Value} {xs xs' : List Value} (h : w.ownsRow B e s v n xs) (h' : w.ownsRow B' e' s' v' n' xs') (he : e ≠ e') : v.ownBlock = none ∨ v.ownBlock ≠ v'.ownBlock := by
  cases hv : v.ownBlock with
  | none => exact .inl rfl
  | some b => exact .inr fun hn => own_sep h h' he b hv hn.symm
theorem RollAt.grown {w w' : World} {g h m : Nat} {tk : Nat → Bool} {gn : Nat → Int} {row : Option Nat} (l : RollAt w g h m tk gn) (k : w.grownBy w' row) (h1 : some g ≠ row) (h2 : some h ≠ row) : RollAt w' g h m tk gn :=
  ⟨l.hdr.grown k h1, l.row.grown k h2, l.ne, l.le, l.bd⟩
theorem own_not {w : World} {B : Nat} {e : TypeId} {s n : Nat} {v : Value} {xs : List Value} (h : w.ownsRow B e s v n xs) {g : Nat} (hg : g < B) : some g ≠ v.ownBlock := fun he => by
  have := (h.lt g he.symm).1
  omega
theorem el25 : Elem Try.prog 25 30 (.agg #[.int .i64 0, .int .u32 0]) 2 16 := ⟨Try.underlying25, by kernel_rfl, rfl, by decide⟩
theorem el26 : Elem Try.prog 26 4 (.bool false) 1 1 := ⟨Try.underlying26, by kernel_rfl, rfl, by decide⟩

theorem first_none {m : Nat} {p : Nat → Bool} (h : ¬ ∃ i, i < m ∧ p i = true ∧ ∀ j, j < i → p j = false) : ∀ j, j < m → p j = false := by
  intro j
  induction j using Nat.strongRecOn with
  | ind j ih =>
    intro hj
    cases hp : p j
    · rfl
    · exact absurd ⟨j, hj, hp, fun i hi => ih i hi (by omega)⟩ h
/-- What holds ahead of each round. -/
structure NevInv (w wr : World) (g h m B : Nat) (vg vd : Value) (k : Nat) (tk : Nat → Bool) (gn : Nat → Int) (gs : List (Nat × Int)) (dn : List Bool) : Prop where
  l : RollAt wr g h m tk gn
  ids : Ids m tk gn gs dn
  og : wr.ownsRow B 30 2 vg gs.length (idCells gs)
  od : wr.ownsRow B 4 1 vd gs.length (boolCells dn)
  few : gs.length ≤ k
  gr : Gr w wr
  gB : g < B
  hB : h < B
  wh : w.heap.size ≤ h
  wB : B ≤ wr.heap.size
def NevRel (w wr : World) (g h m B : Nat) (vg vd : Value) (k : Nat) : Prop := ∃ tk gn gs dn, NevInv w wr g h m B vg vd k tk gn gs dn
theorem NevInv.more {w wr w' : World} {g h m B : Nat} {vg vd : Value} {k : Nat} {tk : Nat → Bool} {gn : Nat → Int} {gs : List (Nat × Int)} {dn : List Bool} (i : NevInv w wr g h m B vg vd k tk gn gs dn) (q : Gr wr w') : NevInv w w' g h m B vg vd k tk gn gs dn :=
  ⟨i.l.gr q, i.ids, q.own i.og, q.own i.od, i.few, i.gr.tr q, i.gB, i.hB, i.wh, by have := i.wB; have := q.size_le; omega⟩

set_option maxRecDepth 100000 in
set_option maxHeartbeats 4000000 in
theorem rollNever_walk (n : Int) (a : Option Addr) (cap : Nat) (zs : List Int) (w : World) (hn : 0 ≤ n ∧ n ≤ 255) (hs : SliceIn .u8 w a cap zs) :
    Calls Try.prog 3 #[.int .u8 n, .slice a zs.length cap] w fun e w' => e = .returned (.bool true) ∧ Gr w w' := by
  obtain ⟨hle, hmax, hrow, hbd⟩ := hs
  have HR := Lib.hid (And.intro hrow hbd)
  clear hrow hbd
  have hm8 : 0 ≤ n % 8 ∧ n % 8 ≤ 7 := by omega
  go_enter Try.func3, Try.ntmps3
  go_wp2_with fail
  refine (rollNew_any _ _).mono ?_
  rintro e w1 ⟨rfl, l1, g1⟩
  have hlt : w.heap.size + 1 < w1.heap.size := l1.hdr.lt
  generalize (clampI (1 + n % 8) 0 64).toNat = m at *
  have i1 : NevRel w w1 (w.heap.size + 1) w.heap.size m w1.heap.size (.slice none 0 0) (.slice none 0 0) 0 :=
    ⟨_, _, [], [], ⟨l1, Ids.nil _ _ _, World.ownsRow_nil _ _ _ _, World.ownsRow_nil _ _ _ _, by simp, g1, by omega, by omega, by omega, by omega⟩⟩
  generalize w1.heap.size = B at *
  clear l1 g1
  go_wp2_with fail
  go_loopw [6, 7, 8] (fun vg vd i wr => ∃ k : Nat, k ≤ zs.length ∧ k ≤ 80 ∧ i = .int .i64 k ∧ NevRel w wr (w.heap.size + 1) w.heap.size m B vg vd k) (fun _ _ i _ => zs.length - (intOf i).toNat)
  case atStart => exact ⟨0, by omega, by omega, rfl, i1⟩
  case round =>
    obtain ⟨k, hk, hk80, rfl, tk, gn, gs, dn, inv⟩ := hrel
    by_cases hlt2 : k < zs.length
    · have hd : decide ((k : Int) < (zs.length : Int)) = true := by simpa using hlt2
      by_cases h80 : k < 80
      · have hd2 : decide ((k : Int) < 80) = true := by simp; omega
        rcases HR.out.1 with h0 | ⟨bz, off, rfl, hc⟩
        · rw [h0] at hlt2; simp at hlt2
        have hz := bd_u8 (HR.out.2 (zs.getD k 0) (by rw [List.getD_eq_getElem?_getD, List.getElem?_eq_getElem hlt2]; simp))
        have hcz := inv.gr.cell_some (hc k hlt2)
        clear hc
        generalize zs.getD k 0 = z at *
        obtain ⟨b, hb⟩ : ∃ b : Bool, b = (decide (0 < gs.length) && decide (0 < z % 3)) := ⟨_, rfl⟩
        have hgl : ∃ ag cg, u6 = .slice ag gs.length cg := by
          rcases own_cells inv.og with ⟨h1, h2⟩ | ⟨bg, cg, h1, _⟩
          · exact ⟨none, 0, by rw [h1, h2]⟩
          · exact ⟨_, cg, h1⟩
        obtain ⟨ag, cg, rfl⟩ := hgl
        go_upto_region 7 with fail
        go_cut [39] (fun s wx => s = .bool b ∧ wr = wx)
        case first =>
          by_cases h1 : 0 < gs.length
          · have hd3 : decide ((0 : Int) < (gs.length : Int)) = true := by simpa using h1
            go_wp2_with fail
            go_meet
            case rel => exact ⟨congrArg Value.bool (by rw [hb]; simp [h1]), rfl⟩
          · have hd3 : decide ((0 : Int) < (gs.length : Int)) = false := by simpa using h1
            go_wp2_with fail
            go_meet
            case rel => exact ⟨congrArg Value.bool (by rw [hb]; simp [h1]), rfl⟩
        case rest =>
          obtain ⟨rfl, rfl⟩ := hcut
          go_upto_if 39 with fail
          go_cut [6, 7] (fun vg vd wx => NevRel w wx (w.heap.size + 1) w.heap.size m B vg vd (k + 1))
          case first =>
            by_cases hfr : 0 < gs.length ∧ 0 < z % 3
            · obtain rfl : b = true := by rw [hb]; simp [hfr]
              obtain ⟨bg, cg', hvg, hbg1, hbg2, hcg1, hcg2, hcg, hfg⟩ := (own_cells inv.og).resolve_left (by rintro ⟨_, h⟩; omega)
              cases hvg
              obtain ⟨bd, cd, rfl, hbd1, hbd2, hcd1, hcd2, hcd, hfd⟩ := (own_cells inv.od).resolve_left (by rintro ⟨_, h⟩; omega)
              obtain ⟨q, hq⟩ := Int.eq_ofNat_of_zero_le (show 0 ≤ z / 3 % (gs.length : Int) by exact Int.emod_nonneg _ (by omega))
              have hql : q < gs.length := by have := Int.emod_lt_of_pos (z / 3) (show (0 : Int) < gs.length by omega); omega
              obtain ⟨⟨ps, pq⟩, hp⟩ : ∃ p, gs[q]? = some p := ⟨_, List.getElem?_eq_getElem hql⟩
              obtain ⟨bq, hbq⟩ : ∃ b, dn[q]? = some b := ⟨_, List.getElem?_eq_getElem (by rw [inv.ids.len]; exact hql)⟩
              have hhas := inv.ids.has q _ _ hp hbq
              have i0 := hcg _ _ (idCells_get gs q _ hp).1
              have i1 := hcg _ _ (idCells_get gs q _ hp).2
              have d0 := hcd _ _ (boolCells_get hbq)
              simp only at i0 i1 hhas
              have HF := Lib.hid (And.intro hfg (And.intro hcg hcd))
              have HB := Lib.hid hb
              clear hcg hcd hb
              go_upto_region 9 with fail
              rw [hq]
              clear hq
              go_cut [59] (fun s wx => s = .bool false ∧ ∃ tk', RollAt wx (w.heap.size + 1) w.heap.size m tk' gn ∧ Ids m tk' gn gs (dn.set q true) ∧ Ch [w.heap.size] wr wx)
              case first =>
                have hwhl := inv.wh
                have hBb := inv.hB
                cases bq
                · have C := Lib.hid (rfree_yes _ _ m tk gn ps pq wr.drew (inv.l.gr (Gr.refl _).drew) hhas)
                  unfold idV at C
                  go_region_law (first | (go_simp; go_at_call 14; refine (C.out).mono ?_; rintro e w3 ⟨rfl, l3, k3⟩; have d3 := k3.cell (show wr.drew.cell? _ = _ from d0) (by simp; omega)))
                  all_goals
                    go_wp2_with fail
                    go_meet
                    case rel => exact ⟨rfl, _, l3, inv.ids.free hp hhas, ((Ch.refl _ _).drew).tr k3 (by simp)⟩
                · have C := Lib.hid (rfree_no _ _ m tk gn ps pq wr.drew (inv.l.gr (Gr.refl _).drew) hhas)
                  unfold idV at C
                  go_region_law (first | (go_simp; go_at_call 14; refine (C.out).mono ?_; rintro e w3 ⟨rfl, g3⟩; have d3 := g3.cell_some (show wr.drew.cell? _ = _ from d0)))
                  all_goals
                    go_wp2_with fail
                    go_meet
                    case rel => exact ⟨rfl, _, (inv.l.gr ((Gr.refl _).drew.tr g3)), by rw [set_same hbq]; exact inv.ids, ((Gr.refl _).drew.tr g3).ch _⟩
              case rest =>
                obtain ⟨rfl, tk', l', ids', k'⟩ := hcut
                have hwhl := inv.wh
                have hBb := inv.hB
                have og' := k'.own inv.og (by simp [Value.ownBlock]; omega)
                have od' := k'.own inv.od (by simp [Value.ownBlock]; omega)
                have gr' := inv.gr.chs k' (by simp)
                obtain ⟨bd', cd', e', _, _, _, _, hcd, hfd⟩ := (own_cells od').resolve_left (by rintro ⟨_, h⟩; omega)
                cases e'
                have d0' := hcd _ _ (boolCells_get (bs := dn) hbq)
                clear hcd i0 i1 d0
                go_wp2_with fail
                go_meet
                case rel =>
                  have kst : Ch [bd] wc (wc.setCell ⟨bd, q, none⟩ (.bool true)) := (Ch.refl _ _).st (by simp) _
                  have hwB := inv.wB
                  have hsz := k'.size
                  have hs := kst.size
                  have hgB := inv.gB
                  have hfw := inv.few
                  have hne := own_sep inv.og inv.od (by decide) bg rfl
                  refine ⟨tk', gn, gs, dn.set q true, ⟨l'.ch kst (by simp; omega) (by simp; omega), ids', own_far og' (by intro x hx; cases hx; intro he; subst he; exact hne rfl) _, ?_, by omega, gr'.st (by simp only; omega) _, hgB, hBb, hwhl, by omega⟩⟩
                  rw [boolCells_set]
                  exact own_set od' q _
            · obtain rfl : b = false := by rw [hb]; simp; omega
              have HB := Lib.hid hb
              clear hb
              by_cases ho : ∃ i, i < m ∧ opn tk gn i = true ∧ ∀ j, j < i → opn tk gn j = false
              · obtain ⟨i, him, hio, hib⟩ := ho
                go_wp2_with fail
                refine (rtk_some _ _ m tk gn _ inv.l i him hio hib).mono ?_
                rintro e w3 ⟨rfl, l3, k3⟩
                unfold idV
                go_wp2_with fail
                have hwB := inv.wB
                have hgB := inv.gB
                have hBb := inv.hB
                have hs3 := k3.size
                have og3 := (k3.own inv.og (fun x hx => by have := (inv.og.lt x hx).1; simp; omega)).alloc (.cells #[.int .i64 i, .int .u32 (gn i + 1)] 30)
                have od3 := (k3.own inv.od (fun x hx => by have := (inv.od.lt x hx).1; simp; omega)).alloc (.cells #[.int .i64 i, .int .u32 (gn i + 1)] 30)
                have l3' := l3.gr ((Gr.refl w3).al (.cells #[.int .i64 i, .int .u32 (gn i + 1)] 30))
                have g3 : Gr w (w3.alloc (.cells #[.int .i64 i, .int .u32 (gn i + 1)] 30)) := (inv.gr.chs k3 (by simp)).al _
                have x3 := Blk.new w3 30 #[.int .i64 i, .int .u32 (gn i + 1)]
                have hB3 : B ≤ (w3.alloc (.cells #[.int .i64 i, .int .u32 (gn i + 1)] 30)).heap.size := by rw [World.size_alloc]; omega
                have hbd := inv.l.bd i
                have hlt1 : gn i < 4294967295 := by simp [opn] at hio; exact hio.2
                have ht0 : tk i = false := by simp [opn] at hio; exact hio.1
                have HI := Lib.hid (inv.ids.take him ht0 ⟨hbd.1, hlt1⟩)
                have hfw := inv.few
                generalize w3.alloc (.cells #[.int .i64 i, .int .u32 (gn i + 1)] 30) = W at *
                generalize w3.heap.size = X at *
                clear inv l3 k3 hs3 hio hib hbd hlt1 ht0
                generalize gn i + 1 = ni at *
                go_loopw [12] (fun v ws => ∃ j : Nat, j ≤ gs.length ∧ v = .int .i64 j ∧ Gr W ws) (fun v _ => gs.length - (intOf v).toNat)
                case atStart => exact ⟨0, by omega, rfl, Gr.refl W⟩
                case round =>
                  obtain ⟨j, hj, rfl, gws⟩ := hrel
                  have og4 := gws.own og3
                  have od4 := gws.own od3
                  have x4 := x3.gr gws
                  obtain ⟨b0, b1, _⟩ := x4.c2
                  by_cases hjl : j < gs.length
                  · have hdj : decide ((j : Int) < (gs.length : Int)) = true := by simpa using hjl
                    obtain ⟨bg, cg', hvg, hbg1, hbg2, hcg1, hcg2, hcg, hfg⟩ := (own_cells og4).resolve_left (by rintro ⟨_, h⟩; omega)
                    cases hvg
                    obtain ⟨⟨ps, pq⟩, hp⟩ : ∃ p, gs[j]? = some p := ⟨_, List.getElem?_eq_getElem hjl⟩
                    have i0 := hcg _ _ (idCells_get gs j _ hp).1
                    have i1 := hcg _ _ (idCells_get gs j _ hp).2
                    have hne := HI.out.2 j _ hp
                    simp only at i0 i1
                    clear hcg
                    go_upto_region 17 with fail
                    by_cases hpi : ps = i
                    · subst hpi
                      have hq : (pq == ni) = false := by simp; rintro rfl; exact hne rfl
                      go_quiet (fail)
                      go_wp2_with fail
                      go_roundw
                      case rel => exact ⟨j + 1, by omega, by go_num, gws.drewN _⟩
                      case measure => simp [intOf]; omega
                    · have hq : ((ps : Int) == (i : Int)) = false := by simp; omega
                      go_quiet (fail)
                      go_wp2_with fail
                      go_roundw
                      case rel => exact ⟨j + 1, by omega, by go_num, gws.drewN _⟩
                      case measure => simp [intOf]; omega
                  · obtain rfl : j = gs.length := by omega
                    have hdj : decide ((gs.length : Int) < (gs.length : Int)) = false := by simp
                    have hszw := gws.size_le
                    go_wp2_with (at_builtin; refine wpList_app1 el25 (.tmp 81) (.tmp 83) B _ _ _ _ _ _ rfl rfl rfl rfl og4 rfl rfl ?_ ?_ ?_ ?_)
                    · omega
                    · omega
                    · omega
                    intro v5 w5 og5 gr5
                    have od5 := od4.kept gr5 (own_sep2 od4 og4 (by decide))
                    have l5 := (l3'.gr gws).grown gr5 (own_not og4 hgB) (own_not og4 hBb)
                    have g5 : Gr w w5 := (g3.tr gws).grown gr5 (fun q hq => by have := (og4.lt q hq).1; omega)
                    have hs5 := gr5.size
                    rw [show idCells gs ++ #[Value.int IntKind.i64 i, Value.int IntKind.u32 ni].toList = idCells (gs ++ [(i, ni)]) by rw [idCells_snoc]] at og5
                    clear og4 od4 x4 b0 b1 gr5 gws l3' g3 og3 od3
                    go_wp2_with (at_builtin; refine wpList_app1 el26 (.tmp 85) (.tmp 86) B _ _ _ _ _ _ rfl rfl rfl rfl od5 rfl rfl ?_ ?_ ?_ ?_)
                    · omega
                    · omega
                    · omega
                    intro v6 w6 od6 gr6
                    have og6 := og5.kept gr6 (own_sep2 og5 od5 (by decide))
                    have l6 := l5.grown gr6 (own_not od5 hgB) (own_not od5 hBb)
                    have g6 : Gr w w6 := g5.grown gr6 (fun q hq => by have := (od5.lt q hq).1; omega)
                    have hs6 := gr6.size
                    rw [show boolCells dn ++ #[Value.bool false].toList = boolCells (dn ++ [false]) by rw [boolCells_snoc]] at od6
                    clear og5 od5 l5 g5 gr6
                    go_wp2_with fail
                    go_meet
                    case rel =>
                      refine ⟨_, _, _, _, ⟨l6, HI.out.1, ?_, ?_, by simp; omega, g6, hgB, hBb, Nat.le_refl _, by omega⟩⟩
                      · simpa using og6
                      · simpa using od6
              · have hno : ∀ j, j < m → opn tk gn j = false := first_none ho
                go_wp2_with (go_at_call 15; refine (rtk_none _ _ m tk gn _ inv.l hno).mono ?_; rintro e w3 ⟨rfl, g3⟩; unfold idV)
                go_meet
                case rel =>
                  have := inv.few
                  have i2 := inv.more (g3.al (.cells #[.int .i64 0, .int .u32 0] 30))
                  exact ⟨tk, gn, gs, dn, ⟨i2.l, i2.ids, i2.og, i2.od, by omega, i2.gr, i2.gB, i2.hB, i2.wh, i2.wB⟩⟩
          case rest =>
            obtain ⟨tk2, gn2, gs2, dn2, inv2⟩ := hcut
            clear inv hcz hz HR
            go_wp2_with fail
            go_loopw [13] (fun v ws => ∃ j : Nat, j ≤ gs2.length ∧ v = .int .i64 j ∧ Gr wc ws) (fun v _ => gs2.length - (intOf v).toNat)
            case atStart => exact ⟨0, by omega, rfl, Gr.refl wc⟩
            case round =>
              obtain ⟨j, hj, rfl, gws⟩ := hrel
              have inv3 := inv2.more gws
              by_cases hjl : j < gs2.length
              · have hdj : decide ((j : Int) < (gs2.length : Int)) = true := by simpa using hjl
                obtain ⟨bg, cg', rfl, hbg1, hbg2, hcg1, hcg2, hcg, hfg⟩ := (own_cells inv3.og).resolve_left (by rintro ⟨_, h⟩; omega)
                obtain ⟨bd, cd, rfl, hbd1, hbd2, hcd1, hcd2, hcd, hfd⟩ := (own_cells inv3.od).resolve_left (by rintro ⟨_, h⟩; omega)
                obtain ⟨⟨ps, pq⟩, hp⟩ : ∃ p, gs2[j]? = some p := ⟨_, List.getElem?_eq_getElem hjl⟩
                obtain ⟨bq, hbq⟩ : ∃ b, dn2[j]? = some b := ⟨_, List.getElem?_eq_getElem (by rw [inv2.ids.len]; exact hjl)⟩
                have hhas := inv2.ids.has j _ _ hp hbq
                have i0 := hcg _ _ (idCells_get gs2 j _ hp).1
                have i1 := hcg _ _ (idCells_get gs2 j _ hp).2
                have d0 := hcd _ _ (boolCells_get hbq)
                simp only at i0 i1 hhas
                clear hcg hcd
                have C := Lib.hid (rhs_any _ _ m tk2 gn2 ps pq wr.drew (inv3.l.gr (Gr.refl _).drew))
                rw [hhas] at C
                unfold idV at C
                clear hhas hb
                go_upto_region 24 with fail
                cases bq
                · go_region_law (first | (go_simp; go_at_call 16; refine (C.out).mono ?_; rintro e w3 ⟨rfl, g3⟩; have d3 := g3.cell_some (show wr.drew.cell? _ = _ from d0)))
                  all_goals
                    go_wp2_with fail
                    go_roundw
                    case rel => exact ⟨j + 1, by omega, by go_num, gws.drew.tr g3⟩
                    case measure => simp [intOf]; omega
                · go_region_law (first | (go_simp; go_at_call 16; refine (C.out).mono ?_; rintro e w3 ⟨rfl, g3⟩; have d3 := g3.cell_some (show wr.drew.cell? _ = _ from d0)))
                  all_goals
                    go_wp2_with fail
                    go_roundw
                    case rel => exact ⟨j + 1, by omega, by go_num, gws.drew.tr g3⟩
                    case measure => simp [intOf]; omega
              · obtain rfl : j = gs2.length := by omega
                have hgl : ∃ ag cg, u6 = .slice ag gs2.length cg := by
                  rcases own_cells inv3.og with ⟨h1, h2⟩ | ⟨bg, cg, h1, _⟩
                  · exact ⟨none, 0, by rw [h1, h2]⟩
                  · exact ⟨_, cg, h1⟩
                obtain ⟨ag, cg, rfl⟩ := hgl
                have hdj : decide ((gs2.length : Int) < (gs2.length : Int)) = false := by simp
                clear hb
                go_wp2_with fail
                go_roundw
                case rel => exact ⟨k + 1, by omega, by omega, by go_num, tk2, gn2, gs2, dn2, inv3⟩
                case measure => simp [intOf]; omega
      · have hd2 : decide ((k : Int) < 80) = false := by simp; omega
        go_wp2_with (go_at_call 17; refine (awake20_any _).mono ?_; rintro e w9 ⟨rfl, g9⟩)
        go_ret
        exact ⟨rfl, inv.gr.tr g9⟩
    · have hd : decide ((k : Int) < (zs.length : Int)) = false := by simpa using hlt2
      go_wp2_with (go_at_call 17; refine (awake20_any _).mono ?_; rintro e w9 ⟨rfl, g9⟩)
      go_ret
      exact ⟨rfl, inv.gr.tr g9⟩
end Go.Proofs.Ytfppmdnpjihcpaa
