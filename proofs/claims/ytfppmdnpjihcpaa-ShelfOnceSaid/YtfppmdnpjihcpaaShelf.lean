/- Contracts of the functions of chapter 16 (shelf), for every input: what each returns, and what it does to its shelf. -/
import Derived.Test.YtfppmdnpjihcpaaLines
import Derived.Test.YtfppmdnpjihcpaaKit6
import Derived.IntWalk
namespace Go.Proofs.Ytfppmdnpjihcpaa
open Go.RowKit LinesP
set_option linter.unusedVariables false

theorem el40 : Elem Try.prog 40 39 (.int .u64 0) 1 8 := ⟨Try.underlying40, by kernel_rfl, rfl, by decide⟩
theorem fn_eqIn (d : Nat) (f : Fn) (a c : Array Value) (w : World) : (Op.equalIn (d + 1) 50 (.func f a c) .nilFunc).run Try.prog w = .ok false w := by
  simp [Op.equalIn, run_underlying Try.underlying50]
theorem fn_eqIn0 (d : Nat) (w : World) : (Op.equalIn (d + 1) 50 .nilFunc .nilFunc).run Try.prog w = .ok true w := by
  simp [Op.equalIn, run_underlying Try.underlying50]
theorem fn_neq (f : Fn) (a c : Array Value) (w : World) : (binOp .neq 50 (.func f a c) .nilFunc).run Try.prog w = .ok (.bool true) w := by
  simp only [binOp]
  simp [Op.equal, Op.maxDepth, fn_eqIn 9999]
theorem fn_neq0 (w : World) : (binOp .neq 50 .nilFunc .nilFunc).run Try.prog w = .ok (.bool false) w := by
  simp only [binOp]
  simp [Op.equal, Op.maxDepth, fn_eqIn0 9999]
theorem fn_eql (f : Fn) (a c : Array Value) (w : World) : (binOp .eql 50 (.func f a c) .nilFunc).run Try.prog w = .ok (.bool false) w := by
  simp only [binOp]
  simp [Op.equal, Op.maxDepth, fn_eqIn 9999]
theorem fn_eql0 (w : World) : (binOp .eql 50 .nilFunc .nilFunc).run Try.prog w = .ok (.bool true) w := by
  simp only [binOp]
  simp [Op.equal, Op.maxDepth, fn_eqIn0 9999]
attribute [go_sem] fn_neq fn_neq0 fn_eql fn_eql0

/-- A claim: there is none, one on nothing, or one on the bottom word (whose function holds the shelf in block X). -/
inductive Cl where | no | nought | on (X : Nat)
def Cl.v : Cl → Value | .no => .nilFunc | .nought => .func (Fn.func 76) #[] #[] | .on X => .func (Fn.func 77) #[] #[.pointer (some ⟨X, 0, none⟩)]
def Cl.bs : Cl → List Nat | .on X => [X] | _ => []
def Cl.is : Cl → Bool | .no => false | _ => true
def Cl.isOn : Cl → Bool | .on _ => true | _ => false
def Cl.held : Cl → Nat → Bool | .on _, n => decide (n = 1) | _, _ => false
/-- A shelf in block g, whose words lie at v. -/
structure ShelfAt (w : World) (g : Nat) (cap : Nat) (v : Value) (ws : List Int) (c : Cl) : Prop where
  hdr : Blk w g 107 #[.int .i64 cap, v, c.v]
  words : Sl 39 .u64 w v ws
  cap1 : 1 ≤ cap
  cap2 : cap ≤ 256
  len : ws.length ≤ cap
  on : ∀ X, c = .on X → Blk w X 35 #[.pointer (some ⟨g, 0, none⟩)] ∧ 0 < ws.length
def shFoot (g : Nat) (v : Value) (c : Cl) : List Nat := g :: (sb v ++ c.bs)
section
variable {w w' : World} {g cap : Nat} {v : Value} {ws : List Int} {c : Cl} {S : List Nat} (l : ShelfAt w g cap v ws c)
include l
theorem ShelfAt.ch (k : Ch S w w') (h : Disj (shFoot g v c) S) : ShelfAt w' g cap v ws c :=
  ⟨l.hdr.ch k (h g (by simp [shFoot])), l.words.ch k (fun b hb => h b (by simp [shFoot, hb])), l.cap1, l.cap2, l.len, fun X hX => ⟨(l.on X hX).1.ch k (h X (by simp [shFoot, hX, Cl.bs])), (l.on X hX).2⟩⟩
theorem ShelfAt.gr (k : Gr w w') : ShelfAt w' g cap v ws c := l.ch (k.ch []) (fun _ _ => by simp)
theorem ShelfAt.inn : In w (shFoot g v c) := by
  intro k hk
  simp only [shFoot, List.mem_cons, List.mem_append] at hk
  rcases hk with rfl | hk | hk
  · exact l.hdr.lt
  · exact l.words.inn k hk
  · cases c with
    | on X => simp [Cl.bs] at hk; subst hk; exact (l.on k rfl).1.lt
    | _ => simp [Cl.bs] at hk
theorem ShelfAt.gv : g ∉ sb v := l.words.ne l.hdr (by decide)
end
theorem shelfNew_any (n : Int) (w : World) : Calls Try.prog 18 #[.int .i64 n] w fun e w' => e = .returned (.pointer (some ⟨w.heap.size, 0, none⟩)) ∧ ShelfAt w' w.heap.size (clampI n 1 256).toNat (.slice none 0 0) [] .no ∧ Gr w w' ∧ w'.heap.size = w.heap.size + 1 := by
  obtain ⟨m, hm⟩ := Int.eq_ofNat_of_zero_le (show 0 ≤ clampI n 1 256 by unfold clampI; omega)
  have hle : 1 ≤ m ∧ m ≤ 256 := by unfold clampI at hm; omega
  have HM := Lib.hid hm
  clear hm
  go_enter Try.func18, Try.ntmps18
  go_wp2_with (go_at_call 60; refine (clamp_any _ _ _ _).mono ?_; rintro e w' ⟨rfl, rfl⟩; rw [HM.out])
  go_ret
  rw [HM.out]
  exact ⟨rfl, ⟨Blk.new w 107 _, Sl.nil _ _ _, by simp; omega, by simp; omega, by simp, by simp⟩, (Gr.refl w).al _, World.size_alloc _ _⟩
theorem nothing_any (x : Int) (w : World) : Calls Try.prog 76 #[.int .i64 x] w fun e w' => e = .returned (.bool false) ∧ w = w' := by
  go_enter Try.func76, Try.ntmps76
  go_wp2
  go_ret
  exact ⟨rfl, rfl⟩
section
variable (g cap : Nat) (v : Value) (ws : List Int) (w : World)
theorem slen_any (c : Cl) (l : ShelfAt w g cap v ws c) : Calls Try.prog 54 #[.pointer (some ⟨g, 0, none⟩)] w fun e w' => e = .returned (.int .i64 ws.length) ∧ w = w' := by
  obtain ⟨a, cp, rfl, h1, h2⟩ := l.words.len
  obtain ⟨c0, c1, c2, cf⟩ := l.hdr.c3
  go_enter Try.func54, Try.ntmps54
  go_wp2
  go_ret
  exact ⟨rfl, rfl⟩
set_option maxRecDepth 100000 in
theorem sclaimed_any (c : Cl) (l : ShelfAt w g cap v ws c) : Calls Try.prog 55 #[.pointer (some ⟨g, 0, none⟩)] w fun e w' => e = .returned (.bool c.is) ∧ w = w' := by
  obtain ⟨c0, c1, c2, cf⟩ := l.hdr.c3
  cases c <;> simp only [Cl.v] at c2
  all_goals
    go_enter Try.func55, Try.ntmps55
    go_wp2
    go_ret
    exact ⟨rfl, rfl⟩
theorem claimF_any (X : Nat) (l : ShelfAt w g cap v ws (.on X)) (x : Int) (hx : x = ws.length - 1) : Calls Try.prog 77 #[.int .i64 x, .pointer (some ⟨X, 0, none⟩)] w fun e w' => e = .returned (.bool true) ∧ w = w' := by
  obtain ⟨a, cp, rfl, h1, h2⟩ := l.words.len
  obtain ⟨c0, c1, c2, cf⟩ := l.hdr.c3
  obtain ⟨x0, xf⟩ := (l.on X rfl).1.c1
  have h0 := (l.on X rfl).2
  have hm := l.cap2
  have hl := l.len
  subst hx
  go_enter Try.func77, Try.ntmps77
  go_wp2
  go_ret
  exact ⟨by simp, rfl⟩
theorem qT {P : Program} {f : FuncId} {args : Array Value} {w : World} {n : Nat} {v : Value} (h : Calls P f args (w.drewN n) fun e w' => e = .returned v ∧ w.drewN n = w') : Calls P f args (w.drewN n) fun e w'' => e = .returned v ∧ ∃ k, w'' = w.drewN k :=
  h.mono fun _ _ ⟨he, hm⟩ => ⟨he, n, hm.symm⟩
end
end Go.Proofs.Ytfppmdnpjihcpaa
