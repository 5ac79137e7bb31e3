/- The contracts of the naps' closure and Tick (chapter 27), for every input. -/
import Derived.Test.YtbeoomjcipbjjaaNp4
namespace Go.Proofs.Ytbeoomjcipbjjaa
open Go.RowKit
set_option linter.unusedVariables false

/-- What Tick hands out: places and kinds. -/
def dueC (K : Nat → Int) (l : List Int) : List Value := l.flatMap fun p => [.int .i64 p, .int .i64 (K p.toNat)]
theorem dueC_snoc (K : Nat → Int) (l : List Int) (p : Nat) : dueC K (l ++ [(p : Int)]) = dueC K l ++ [.int .i64 p, .int .i64 (K p)] := by unfold dueC; simp
theorem dueC_len (K : Nat → Int) : ∀ l : List Int, (dueC K l).length = l.length * 2
  | [] => rfl
  | x :: r => by
    have := dueC_len K r
    unfold dueC at this ⊢
    rw [List.flatMap_cons, List.length_append, this]
    simp; omega
/-- The kinds behind the first i of a row of places. -/
def offK (K : Nat → Int) (l : List Int) (i : Nat) : Nat → Int := fun p => if (p : Int) ∈ l.take i then 0 else K p
theorem offK_zero (K : Nat → Int) (l : List Int) : offK K l 0 = K := by funext p; unfold offK; simp
theorem offK_step (K : Nat → Int) (l : List Int) {i p : Nat} (hi : i < l.length) (hp : l.getD i 0 = p) : updT (offK K l i) p 0 = offK K l (i + 1) := by
  funext j
  unfold updT offK
  rw [take_snoc l i hi, hp]
  by_cases e : j = p
  · subst e; simp
  · rw [if_neg e]
    have : ((j : Int) ∈ l.take i ++ [(p : Int)]) ↔ (j : Int) ∈ l.take i := by simp; omega
    simp only [this]
theorem offK_at (K : Nat → Int) {s : TS} {l : List Int} (h : IsDue s l) {i p : Nat} (hi : i < l.length) (hp : l.getD i 0 = p) : offK K l i p = K p := by
  unfold offK
  rw [if_neg]
  intro hm
  obtain ⟨j, hj, e⟩ := List.mem_iff_getElem.1 hm
  rw [List.length_take] at hj
  have hpw := List.pairwise_iff_getElem.1 h.1 j i (by omega) hi (by omega)
  have e1 : l[j]'(by omega) = (p : Int) := by rw [← e, List.getElem_take]
  have e2 : l[i] = (p : Int) := by rw [← hp]; simp [List.getD, hi]
  rw [e1, e2] at hpw
  omega
theorem offK_end (K : Nat → Int) {s : TS} {l : List Int} (h : IsDue s l) (hb : ∀ p, 64 ≤ p → K p = 0) : offK K l l.length = tickK s K := by
  funext p
  unfold offK tickK
  rw [List.take_length]
  by_cases hp : p < 64
  · have : (p : Int) ∈ l ↔ (s.no p ≠ 0 ∧ s.du p = s.now + 1) := by
      rw [h.2]
      constructor
      · rintro ⟨r, hr, h1, h2, h3⟩
        obtain rfl : p = r := by omega
        exact ⟨h2, h3⟩
      · rintro ⟨h2, h3⟩
        exact ⟨p, rfl, hp, h2, h3⟩
    simp only [this]
  · rw [hb p (by omega)]; simp
theorem IsDue.at_ {s : TS} {l : List Int} (h : IsDue s l) {i : Nat} (hi : i < l.length) : ∃ p : Nat, l.getD i 0 = p ∧ p < 64 := by
  have e : l.getD i 0 = l[i] := by simp [List.getD, hi]
  obtain ⟨p, h1, h2, _⟩ := (h.2 _).1 (List.getElem_mem hi)
  exact ⟨p, by rw [e, h1], h2⟩
theorem el53 : Elem Try.prog 53 56 (.agg #[.int .i64 0, .int .i64 0]) 2 16 := ⟨Try.underlying53, by kernel_rfl, rfl, by decide⟩
/-- The closure: a place's nap, which ends. -/
theorem nring (q g C : Nat) (K : Nat → Int) (i : Nat) (hi : i < 64) (w : World) (hA : Arr w q 100 66 (npF g C K)) (hB : Blk w C 49 #[.pointer (some ⟨q, 0, none⟩)]) :
    Calls Try.prog 47 #[.int .i64 i, .pointer (some ⟨C, 0, none⟩)] w fun e w' => e = .returned (.agg #[.int .i64 i, .int .i64 (K i)]) ∧ Arr w' q 100 66 (npF g C (updT K i 0)) ∧ Ch [q] w w' := by
  have c0 := hB.c1.1
  have c1 : w.cell? ⟨q, 1 + i, none⟩ = some (.int .i64 (K i)) := by
    rw [hA.cell (by omega), show 1 + i = i + 1 by omega]
    show some (if i < 64 then _ else _) = _
    rw [if_pos hi]
  have cf := hA.frozen
  have hq := hA.lt
  have hC := hB.lt
  have i1 : (i : Int) < 64 := by omega
  have HA := Lib.hid (And.intro hA hB)
  clear hA hB
  generalize K i = z at *
  go_enter Try.func47, Try.ntmps47
  go_wp2_with fail
  have hb : Blk (((w.setCell ⟨q, 1 + i, none⟩ (.int .i64 0)).alloc (.cells #[.int .i64 i, .int .i64 z] 56)).alloc (.cells #[.int .i64 i, .int .i64 z] 56)) w.heap.size 56 #[.int .i64 i, .int .i64 z] := by
    have := (Blk.new (w.setCell ⟨q, 1 + i, none⟩ (.int .i64 0)) 56 #[.int .i64 i, .int .i64 z]).al (.cells #[.int .i64 i, .int .i64 z] 56)
    rwa [show (w.setCell ⟨q, 1 + i, none⟩ (.int .i64 0)).heap.size = w.heap.size by simp [World.setCell]] at this
  refine bodyPost_ret (v := .agg #[.int .i64 i, .int .i64 z]) (results_cell_row rfl _ _ w.heap.size 56 _ (0, 0) _ rfl hb Try.underlying56 rfl (by kernel_rfl)) rfl ⟨rfl, ?_, ?_⟩
  · exact ((npSet HA.out.1 hi 0).al _).al _
  · exact (((Ch.refl [q] w).st (by simp) _).al _).al _
/-- A tick: what ends, and the naps behind it. -/
def NTick (q g C : Nat) (S : List Nat) (s : TS) (K : Nat → Int) (w : World) (e : Ending) (w' : World) : Prop :=
  ∃ v l S', e = .returned v ∧ IsDue s l ∧ SC 2 56 w' v l.length (dueC K l) ∧ NM w' q g C S' (turnT s) (tickK s K) ∧ Ch (q :: S) w w' ∧ Foot w S S' ∧ Foot w [] (sb v)
theorem ntick_top (q g C : Nat) (S : List Nat) (s : TS) (K : Nat → Int) (w : World) (m : NM w q g C S s K) (hM : s.now = 18446744073709551615) : Calls Try.prog 22 #[.pointer (some ⟨q, 0, none⟩)] w fun e w' => e = .returned (.slice none 0 0) ∧ Gr w w' := by
  obtain ⟨c0, _, cf⟩ := m.head
  have CT := Lib.hid (wturn_top g S s w m.wa hM)
  clear m hM
  go_enter Try.func22, Try.ntmps22
  go_wp2_with (go_at_call 13; refine (CT.out).mono ?_; rintro e w1 ⟨rfl, g1⟩)
  refine wp_loop_rounds 1 ?_
  rw [rounds_succ]
  go_wp2
  go_ret
  exact ⟨rfl, g1⟩
structure TickInv (w1 wr : World) (q g C : Nat) (S2 : List Nat) (s : TS) (K : Nat → Int) (v : Value) (l : List Int) (k : Nat) (vo : Value) : Prop where
  hdr : Arr wr q 100 66 (npF g C (offK K l k))
  out : SC 2 56 wr vo k (dueC K (l.take k))
  fo : Foot w1 [] (sb vo)
  ch : Ch [q] w1 wr
set_option maxRecDepth 100000 in
set_option maxHeartbeats 1000000 in
theorem ntick (q g C : Nat) (S : List Nat) (s : TS) (K : Nat → Int) (w : World) (m : NM w q g C S s K) (hM : s.now < 18446744073709551615) : Calls Try.prog 22 #[.pointer (some ⟨q, 0, none⟩)] w (NTick q g C S s K w) := by
  obtain ⟨c0, _, cf⟩ := m.head
  have CT := Lib.hid (wturn g S s w m.wa hM)
  have HM := Lib.hid (And.intro m hM)
  clear m hM
  go_enter Try.func22, Try.ntmps22
  go_wp2_with (go_at_call 13; refine (CT.out).mono ?_; rintro e w1 ⟨v, l, S2, rfl, hdue, r1, wa1, k1, f1, d1, fv1⟩; have hl64 := hdue.len; obtain ⟨na, ka, rfl, _, _⟩ := r1.len)
  have A1 : Arr w1 q 100 66 (npF g C K) := HM.out.1.hdr.ch k1 HM.out.1.nq
  have B1 : Blk w1 C 49 #[.pointer (some ⟨q, 0, none⟩)] := HM.out.1.box.ch k1 HM.out.1.nC
  have hqv : q ∉ sb (.slice na l.length ka) := r1.ne A1 (by decide)
  have I0 : TickInv w1 w1 q g C S2 s K (.slice na l.length ka) l 0 (.slice none 0 0) := ⟨by rw [offK_zero]; exact A1, SC.nil 2 56 w1, fun x hx => by simp [sb] at hx, Ch.refl _ _⟩
  have HI0 := Lib.hid I0
  have H1 := Lib.hid (And.intro hdue (And.intro r1 (And.intro wa1 (And.intro k1 (And.intro f1 (And.intro B1 hqv))))))
  clear hdue r1 wa1 k1 f1 d1 fv1 A1 B1 hqv I0 c0 cf
  go_loopw [3, 5, 14] (fun vo _ i wr => ∃ k : Nat, k ≤ l.length ∧ i = .int .i64 k ∧ TickInv w1 wr q g C S2 s K (.slice na l.length ka) l k vo) (fun _ _ i _ => l.length - (intOf i).toNat)
  case atStart => exact ⟨0, by omega, rfl, HI0.out⟩
  case round =>
    obtain ⟨k, hk, rfl, hI⟩ := hrel
    have HI := Lib.hid hI
    clear hI HI0
    by_cases hlt : k < l.length
    · have i1 : (k : Int) < (l.length : Int) := by omega
      have r2 := H1.out.2.1.ch HI.out.ch (fun x hx hx2 => by simp at hx2; subst hx2; exact H1.out.2.2.2.2.2.2 hx)
      obtain ⟨bl, o, c, he, _, _, hc, _, _⟩ := r2.cells (by omega)
      cases he
      obtain ⟨p, hp1, hp2⟩ := H1.out.1.at_ hlt
      have c1 := hc k hlt
      rw [hp1] at c1
      have HP := Lib.hid hp1
      have c5 : _ = some (Value.func (.func 47) #[] #[.pointer (some ⟨C, 0, none⟩)]) := HI.out.hdr.cell (i := 65) (by omega)
      have hCq : C ≠ q := fun e => HM.out.1.qC e.symm
      have CR := Lib.hid (nring q g C (offK K l k) p hp2 _ HI.out.hdr (H1.out.2.2.2.2.2.1.ch HI.out.ch (by simpa using hCq)))
      rw [offK_at K H1.out.1 hlt hp1, offK_step K l hlt hp1] at CR
      have HT := Lib.hid (dueC_snoc K (l.take k) p)
      have HTK := Lib.hid (take_snoc l k hlt)
      generalize K p = z at *
      clear hc r2 hp1 hCq
      go_wp2_with (first
        | (go_at_call 47; refine (CR.out).mono ?_; rintro e w3 ⟨rfl, a3, k3⟩; have A3 := Lib.hid (And.intro a3 k3); clear a3 k3)
        | (at_builtin; refine wpList_sc1 el53 (.tmp 18) (.tmp 25) _ k (dueC K (l.take k)) #[.int .i64 p, .int .i64 z] _ rfl rfl rfl rfl (HI.out.out.ch A3.out.2 (fun x hx hx2 => by simp at hx2; subst hx2; exact HI.out.out.ne HI.out.hdr (by decide) hx)) rfl rfl (by omega) (by omega) ?_; intro v4 w4 s4 k4 f4))
      go_roundw
      case rel =>
        refine ⟨k + 1, by omega, by go_num, ?_, ?_, ?_, ?_⟩
        · exact A3.out.1.ch k4 (HI.out.out.ne HI.out.hdr (by decide))
        · rw [HTK.out, HP.out, HT.out]; exact s4
        · exact HI.out.fo.tr f4 (Nat.le_trans HI.out.ch.size A3.out.2.size)
        · exact (HI.out.ch.tr A3.out.2 (fun x hx => .inl hx)).tr k4 (fun x hx => (HI.out.fo x hx).elim (fun h => by cases h) .inr)
      case measure => simp [intOf]; omega
    · obtain rfl : k = l.length := by omega
      go_wp2_with fail
      go_ret
      have hq2 : q ∉ S2 := H1.out.2.2.1.ne ((H1.out.2.2.2.2.2.1).c1.1 |> fun _ => HM.out.1.hdr.ch H1.out.2.2.2.1 HM.out.1.nq) (by decide) (by decide)
      have ha := HI.out.hdr
      rw [offK_end K H1.out.1 HM.out.1.nk.big] at ha
      have ho := HI.out.out
      rw [List.take_length] at ho
      refine ⟨_, l, S2, rfl, H1.out.1, ho, ⟨ha, H1.out.2.2.2.2.2.1.ch HI.out.ch (by simp; exact fun e => HM.out.1.qC e.symm), H1.out.2.2.1.ch HI.out.ch (fun x hx hx2 => by simp at hx2; subst hx2; exact hq2 hx), HM.out.1.nk.tick HM.out.2⟩, ?_, H1.out.2.2.2.2.1, fun x hx => (HI.out.fo x hx).imp id (fun h => Nat.le_trans H1.out.2.2.2.1.size h)⟩
      exact (H1.out.2.2.2.1.wide (fun y hy => List.mem_cons_of_mem q hy)).tr HI.out.ch (fun x hx => by simp at hx; subst hx; simp)
end Go.Proofs.Ytbeoomjcipbjjaa
