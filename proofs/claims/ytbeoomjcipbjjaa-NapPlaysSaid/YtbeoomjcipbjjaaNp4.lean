/- The contracts of the naps' Cancel and Len (chapter 27), and what nil naps answer, for every input. -/
import Derived.Test.YtbeoomjcipbjjaaNp3
import Derived.Deep.MidRow
namespace Go.Proofs.Ytbeoomjcipbjjaa
open Go.RowKit
set_option linter.unusedVariables false

def canNS (s : TS) (K : Nat → Int) (p : Int) : TS := if kdS K p = 0 then s else canN s p.toNat
def canNK (K : Nat → Int) (p : Int) : Nat → Int := if kdS K p = 0 then K else updT K p.toNat 0
theorem canS_at (s : TS) {i : Nat} (hi : i < 64) : canS s i = canN s i := by
  unfold canS canN
  rw [hasB_at s i hi, Int.toNat_natCast]
  by_cases h : s.no i = 0 <;> simp [h]
set_option maxHeartbeats 1000000 in
theorem ncancel (q g C : Nat) (S : List Nat) (s : TS) (K : Nat → Int) (p : Int) (w : World) (m : NM w q g C S s K) :
    Calls Try.prog 34 #[.pointer (some ⟨q, 0, none⟩), .int .i64 p] w fun e w' => e = .returned (.bool (decide (kdS K p ≠ 0))) ∧ NTo q g C S (canNS s K p) (canNK K p) w w' := by
  have CK := Lib.hid (nkind q g C S s K p w m)
  have HM := Lib.hid m
  by_cases h0 : kdS K p = 0
  · have HS := Lib.hid (show canNS s K p = s ∧ canNK K p = K by unfold canNS canNK; rw [if_pos h0, if_pos h0]; exact ⟨rfl, rfl⟩)
    rw [h0] at CK ⊢
    clear m h0
    go_enter Try.func34, Try.ntmps34
    go_wp2_with (go_at_call 23; refine (CK.out).mono ?_; rintro e w1 ⟨rfl, rfl⟩)
    go_ret
    rw [HS.out.1, HS.out.2]
    exact ⟨rfl, NTo.of_gr HM.out (Gr.refl _)⟩
  · have hp : 0 ≤ p ∧ p < 64 := Classical.byContradiction fun e => h0 (kdS_no K e)
    obtain ⟨i, rfl⟩ := Int.eq_ofNat_of_zero_le hp.1
    have hi : i < 64 := by omega
    have i1 : (i : Int) < 64 := by omega
    have HS := Lib.hid (show canNS s K i = canN s i ∧ canNK K i = updT K i 0 by unfold canNS canNK; rw [if_neg h0, if_neg h0]; exact ⟨rfl, rfl⟩)
    have e0 : (kdS K i == 0) = false := by simpa using h0
    rw [show decide (kdS K i ≠ 0) = true by simpa using h0]
    obtain ⟨c0, _, cf⟩ := m.head
    have CW := Lib.hid (wcan g S s i w m.wa)
    rw [canS_at s hi] at CW
    have hq2 := m.nq
    have hC2 := m.nC
    have hqC := m.qC
    have HF : Hid (∀ S' w2, WA w2 g S' (canN s i) → Ch S w w2 → Foot w S S' → NTo q g C S (canN s i) (updT K i 0) w (w2.setCell ⟨q, 1 + i, none⟩ (.int .i64 0))) := Lib.hid (fun S' w2 wa2 k2 f2 => by
      have m2 : Arr w2 q 100 66 (npF g C K) := m.hdr.ch k2 hq2
      have hq3 : q ∉ S' := wa2.ne m2 (by decide) (by decide)
      refine ⟨S', ⟨npSet m2 hi 0, ?_, ?_, m.nk.cancel i⟩, ?_, f2⟩
      · exact (m.box.ch k2 hC2).far (fun e => hqC e.symm) _
      · exact wa2.ch ((Ch.refl [q] w2).st (by simp) _) (fun y hy hm => by simp at hm; subst hm; exact hq3 hy)
      · exact (k2.wide (fun y hy => List.mem_cons_of_mem q hy)).st (by simp) _)
    have HZ := Lib.hid (fun w2 (k2 : Ch S w w2) => (m.hdr.ch k2 hq2).frozen)
    have c1 := m.kd hi
    generalize kdS K i = z at *
    clear m h0 hp hC2 hqC
    go_enter Try.func34, Try.ntmps34
    go_wp2_with (first
      | (go_at_call 23; refine (CK.out).mono ?_; rintro e w1 ⟨rfl, rfl⟩)
      | (go_at_call 29; refine (CW.out).mono ?_; rintro e w2 ⟨rfl, S2, wa2, k2, f2⟩; have fz := HZ.out _ k2; have c0' := k2.cell c0 hq2; have c1' := k2.cell c1 hq2))
    go_ret
    rw [HS.out.1, HS.out.2]
    exact ⟨rfl, HF.out S2 w2 wa2 k2 f2⟩
theorem info97 (F : Nat → Value) (o : Nat) : (Try.prog.info? 97).map (·.size) = some (part F o 64).length := by rw [part_length]; kernel_rfl
theorem idx97 (F : Nat → Value) (k : Nat) (hk : k < 64) (w : World) : (Instr.index 97 (.agg (part F 1 64).toArray) (.int .i64 k)).run Try.prog w = .ok (F (1 + k)) w := by
  have h : (0 : Int) ≤ k ∧ (k : Int) < 64 := by omega
  have hu := run_underlying Try.underlying97 w
  unfold Instr.index
  simp [asIntOf, hu, Sem.run_bind, h, Go.part, hk]
  rw [part_get _ _ _ _ hk]
  rfl
theorem idxN (g C : Nat) (K : Nat → Int) (k : Nat) (hk : k < 64) (w : World) : (Instr.index 97 (.agg (part (npF g C K) 1 64).toArray) (.int .i64 k)).run Try.prog w = .ok (.int .i64 (K k)) w := by
  rw [idx97 _ k hk, show 1 + k = k + 1 by omega]
  show Result.ok (if k < 64 then _ else _) w = _
  rw [if_pos hk]
theorem ldK {ops : Array Oper} {rest : List Oper} {o : Oper} {a : Act} {w : World} {Q : Exit → Act → World → Prop} (x : Operand) (q g C : Nat) (K : Nat → Int) (hg : o.guard = none) (ho : o.op = .load 97 x) (hx : a.eval x = .pointer (some ⟨q, 1, none⟩)) (l : Arr w q 100 66 (npF g C K))
    (hh : wpList Try.prog ops Q rest (a.put o.dst (.agg (part (npF g C K) 1 64).toArray)) w) : wpList Try.prog ops Q (o :: rest) a w :=
  wpList_load_mid hg 97 x ho q 1 hx (part (npF g C K) 1 64) _ (l.range 1 64 (by omega)) Try.underlying97 rfl (info97 _ _) hh
theorem nlen (q g C : Nat) (S : List Nat) (s : TS) (K : Nat → Int) (w : World) (m : NM w q g C S s K) : Calls Try.prog 24 #[.pointer (some ⟨q, 0, none⟩)] w fun e w' => e = .returned (.int .i64 (cntK K 64 : Nat)) ∧ w = w' := by
  have hA := m.hdr
  have HI := Lib.hid (idxN g C K)
  have HL := Lib.hid (cntK_le K)
  have HS := Lib.hid (fun i => (show cntK K (i + 1) = if K i ≠ 0 then cntK K i + 1 else cntK K i from rfl))
  clear m
  go_enter Try.func24, Try.ntmps24
  go_wp2_with (refine ldK (.tmp 10) q g C K rfl rfl rfl hA ?_)
  generalize (part (npF g C K) 1 64).toArray = A at *
  clear hA
  go_loopw [3, 5, 12] (fun v _ i wr => ∃ k : Nat, k ≤ 64 ∧ i = .int .i64 k ∧ v = .int .i64 (cntK K k : Nat) ∧ w = wr) (fun _ _ i _ => 64 - (intOf i).toNat)
  case atStart => exact ⟨0, by omega, rfl, rfl, rfl⟩
  case round =>
    obtain ⟨k, hk, rfl, rfl, rfl⟩ := hrel
    by_cases hlt : k < 64
    · have i1 : (k : Int) < 64 := by omega
      have hi := HI.out k hlt
      have hs := HS.out k
      have hle := HL.out k
      by_cases h0 : K k = 0
      · rw [if_neg (by simpa using h0)] at hs
        have HS' := Lib.hid hs
        rw [h0] at hi
        clear hs h0
        generalize cntK K k = n at *
        go_wp2_with fail
        go_roundw
        case rel => exact ⟨k + 1, by omega, by go_num, by rw [HS'.out], trivial⟩
        case measure => simp [intOf]; omega
      · rw [if_pos h0] at hs
        have HS' := Lib.hid hs
        have e0 : (K k != 0) = true := by simpa using h0
        generalize K k = z at *
        clear hs h0
        generalize cntK K k = n at *
        go_wp2_with fail
        go_roundw
        case rel => exact ⟨k + 1, by omega, by go_num, by rw [HS'.out]; go_num, trivial⟩
        case measure => simp [intOf]; omega
    · obtain rfl : k = 64 := by omega
      have i1 : decide ((64 : Int) < 64) = false := rfl
      go_wp2_with fail
      go_ret
      exact ⟨rfl, rfl⟩
theorem nbegin_nil (p k t : Int) (w : World) : Calls Try.prog 21 #[.pointer none, .int .i64 p, .int .i64 k, .int .u64 t] w fun e w' => e = .returned (.tuple #[.bool false, .int .i64 14]) ∧ w = w' := by
  go_enter Try.func21, Try.ntmps21
  go_wp2_with fail
  go_ret2
  exact ⟨rfl, rfl⟩
theorem ncancel_nil (p : Int) (w : World) : Calls Try.prog 34 #[.pointer none, .int .i64 p] w fun e w' => e = .returned (.bool false) ∧ w = w' := by
  have CK := Lib.hid (fun w => nkind_nil p w)
  go_enter Try.func34, Try.ntmps34
  go_wp2_with (go_at_call 23; refine (CK.out _).mono ?_; rintro e w1 ⟨rfl, rfl⟩)
  go_ret
  exact ⟨rfl, rfl⟩
theorem nlen_nil (w : World) : Calls Try.prog 24 #[.pointer none] w fun e w' => e = .returned (.int .i64 0) ∧ w = w' := by
  go_enter Try.func24, Try.ntmps24
  go_wp2_with fail
  go_ret
  exact ⟨rfl, rfl⟩
theorem ntick_nil (w : World) : Calls Try.prog 22 #[.pointer none] w fun e w' => e = .returned (.slice none 0 0) ∧ w = w' := by
  go_enter Try.func22, Try.ntmps22
  go_wp2_with fail
  go_ret
  exact ⟨rfl, rfl⟩
end Go.Proofs.Ytbeoomjcipbjjaa
