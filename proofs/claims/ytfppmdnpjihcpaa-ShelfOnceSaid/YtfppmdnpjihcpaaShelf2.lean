/- The top word: is it claimed? -/
import Derived.Test.YtfppmdnpjihcpaaShelf
namespace Go.Proofs.Ytfppmdnpjihcpaa
open Go.RowKit LinesP
set_option linter.unusedVariables false
section
variable (g cap : Nat) (v : Value) (ws : List Int) (w : World)
set_option maxRecDepth 100000 in
theorem holds_any (c : Cl) (l : ShelfAt w g cap v ws c) : Calls Try.prog 75 #[.pointer (some ⟨g, 0, none⟩)] w fun e w' => e = .returned (.bool (c.held ws.length)) ∧ Gr w w' := by
  obtain ⟨a, cp, rfl, h1, h2⟩ := l.words.len
  obtain ⟨c0, c1, c2, cf⟩ := l.hdr.c3
  have hm := l.cap2
  have hl := l.len
  cases c with
  | no =>
    simp only [Cl.v] at c2
    clear l
    go_enter Try.func75, Try.ntmps75
    go_upto_region 1 with fail
    go_quiet (fail)
    go_wp2
    go_ret
    exact ⟨rfl, (Gr.refl w).drewN _⟩
  | nought =>
    simp only [Cl.v] at c2
    clear l
    have C := Lib.hid (fun n x => qT (n := n) (nothing_any x (w.drewN n)))
    go_enter Try.func75, Try.ntmps75
    go_upto_region 1 with fail
    go_quiet (first | (go_at_call 76; exact C.out _ _))
    go_wp2
    go_ret
    exact ⟨rfl, (Gr.refl w).drewN _⟩
  | on X =>
    have C := Lib.hid (fun n => qT (n := n) (claimF_any g cap _ ws (w.drewN n) X (l.gr ((Gr.refl w).drewN n)) _ rfl))
    have h0 := (l.on X rfl).2
    simp only [Cl.v] at c2
    clear l
    have hwr : IntKind.i64.wrap ((ws.length : Int) - 1) = ws.length - 1 := IntWalk.i64_in _ (by omega)
    by_cases hw : ws.length = 1
    · have hd : ((ws.length : Int) == 1) = true := by simp [hw]
      have HW := Lib.hid hw
      clear hw
      go_enter Try.func75, Try.ntmps75
      go_upto_region 1 with fail
      go_quiet (first | (go_at_call 77; exact C.out _))
      go_wp2
      go_ret
      exact ⟨by simp [Cl.held, HW.out], (Gr.refl w).drewN _⟩
    · have hd : ((ws.length : Int) == 1) = false := by simp; omega
      have HW := Lib.hid hw
      clear hw
      go_enter Try.func75, Try.ntmps75
      go_upto_region 1 with fail
      go_quiet (first | (go_at_call 77; exact C.out _))
      go_wp2
      go_ret
      exact ⟨by simp [Cl.held, HW.out], (Gr.refl w).drewN _⟩
end
end Go.Proofs.Ytfppmdnpjihcpaa
