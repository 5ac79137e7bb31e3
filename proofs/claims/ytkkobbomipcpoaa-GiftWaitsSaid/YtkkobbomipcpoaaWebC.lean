/- Contracts of chapter 24 (web): the function values that are called along a chain, and what is met. -/
import Derived.Test.YtkkobbomipcpoaaWebP
import Derived.WalkMore
namespace Go.Proofs.Ytkkobbomipcpoaa
open Go.RowKit
set_option linter.unusedVariables false
theorem Blk.dif {w : World} {g h : Nat} {t u : TypeId} {cs ds : Array Value} (h1 : Blk w g t cs) (h2 : Blk w h u ds) (hn : t ≠ u) : g ≠ h := by
  rintro rfl
  unfold Blk at h1 h2
  rw [h1] at h2
  simp at h2
  exact hn h2.2
def metC (zs : List Int) : Array Value := (tab 64 fun i => .bool (decide ((i : Int) ∈ zs))).toArray
theorem hal133 (w : World) : (Instr.alloc 133 true (.tuple #[])).run Try.prog w = .ok (.pointer (some ⟨w.heap.size, 0, none⟩)) (w.alloc (.cells (metC []) 133)) := by
  kernel_rfl
theorem metC_get {zs : List Int} {i : Nat} (h : i < 64) : (metC zs)[i]? = some (.bool (decide ((i : Int) ∈ zs))) := by
  simp only [metC, List.getElem?_toArray]
  exact tab_get _ _ _ h
theorem metC_set (zs : List Int) (i : Nat) : (metC zs).setIfInBounds i (.bool true) = metC (zs ++ [(i : Int)]) := by
  simp only [metC, List.setIfInBounds_toArray, tab_set]
  congr 1
  refine tab_congr _ _ _ fun j _ => ?_
  by_cases h : j = i
  · simp [h]
  · have : (j : Int) ≠ (i : Int) := by omega
    simp [h, this]
def isF : Value → Bool | .bool false => true | _ => false
def leftW (w : World) (M : Nat) : Nat := (rowOf w M).toList.countP isF
theorem countP_lt {α : Type} (p q : α → Bool) : ∀ (l : List α), (∀ x ∈ l, q x = true → p x = true) → (∃ x ∈ l, p x = true ∧ q x = false) → l.countP q < l.countP p
  | [], _, h => by obtain ⟨x, hx, _⟩ := h; simp at hx
  | y :: l, h1, h2 => by
    have hle : l.countP q ≤ l.countP p := List.countP_mono_left fun x hx => h1 x (by simp [hx])
    rw [List.countP_cons, List.countP_cons]
    obtain ⟨x, hx, hp, hq⟩ := h2
    rcases List.mem_cons.1 hx with rfl | hx
    · simp [hp, hq]; omega
    · have := countP_lt p q l (fun x hx => h1 x (by simp [hx])) ⟨x, hx, hp, hq⟩
      have h3 := h1 y (by simp)
      cases hy : q y
      · simp; omega
      · simp [h3 hy]; omega
theorem leftW_eq {w : World} {M : Nat} {zs : List Int} (h : Blk w M 133 (metC zs)) : leftW w M = (List.range 64).countP fun (i : Nat) => !decide ((i : Int) ∈ zs) := by
  unfold leftW
  rw [h.rowOf]
  simp only [metC, tab, List.countP_map]
  congr 1
  funext i
  simp only [Function.comp]
  cases decide ((i : Int) ∈ zs) <;> rfl
theorem leftW_lt {w w' : World} {M i : Nat} {zs : List Int} (h : Blk w M 133 (metC zs)) (h' : Blk w' M 133 (metC (zs ++ [(i : Int)]))) (hi : i < 64) (hn : (i : Int) ∉ zs) : leftW w' M < leftW w M := by
  rw [leftW_eq h, leftW_eq h']
  refine countP_lt _ _ _ (fun x _ hx => ?_) ⟨i, List.mem_range.2 hi, by simp [hn], by simp⟩
  simp at hx ⊢
  exact hx.1
/-- A function value that is called along a chain: what it says, and what it keeps. -/
structure OnC (K : Nat) (args : Int → Array Value) (B : Nat) (g a b : Nat) (s : WebS) (on : List Int → Int → Bool) (I : List Int → World → Prop) : Prop where
  web : ∀ zs w, I zs w → WebAt w g a b s
  gr : ∀ zs w w', I zs w → Gr w w' → I zs w'
  st : ∀ zs w M cs p v, I zs w → Blk w M 133 cs → B ≤ M → I zs (w.setCell ⟨M, p, none⟩ v)
  call : ∀ zs x w, zs.length < 64 → I zs w → Calls Try.prog K (args x) w fun e w' => e = .returned (.bool (on zs x)) ∧ I (zs ++ [x]) w' ∧ ∀ M cs, Blk w M 133 cs → Blk w' M 133 cs
def WalkEnd (s : WebS) (t : Int) (on : List Int → Int → Bool) (I : List Int → World → Prop) (e : Ending) (w' : World) : Prop :=
  ∃ k r, e = .returned (.bool r) ∧ NoStop s.next t k ∧ (∀ j, j < k → on (trail s.next t j) (it s.next t (j + 1)) = true) ∧
    ((Stop s.next t k ∧ r = decide (it s.next t (k + 1) = t ∧ it s.next t (k + 1) ≠ -1) ∧ I (trail s.next t k) w') ∨
     (¬ Stop s.next t k ∧ on (trail s.next t k) (it s.next t (k + 1)) = false ∧ r = false ∧ I (trail s.next t (k + 1)) w'))
theorem ring1 (x : Int) (w : World) : Calls Try.prog 83 #[.int .i64 x] w fun e w' => e = .returned (.bool true) ∧ w = w' := by
  go_enter Try.func83, Try.ntmps83
  go_wp2
  go_ret
  exact ⟨rfl, rfl⟩
theorem closes1 (x t : Int) (fd : Bool) (F T : Nat) (w : World) (hF : Blk w F 4 #[.bool fd]) (hT : Blk w T 3 #[.int .i64 t]) : Calls Try.prog 79 #[.int .i64 x, .pointer (some ⟨F, 0, none⟩), .pointer (some ⟨T, 0, none⟩)] w fun e w' => e = .returned (.bool (!(fd || decide (x = t)))) ∧ w' = w.setCell ⟨F, 0, none⟩ (.bool (fd || decide (x = t))) := by
  obtain ⟨c1, c2⟩ := hF.c1
  obtain ⟨c3, c4⟩ := hT.c1
  cases fd
  · by_cases h : x = t
    · subst h
      rw [show (false || decide (x = x)) = true by simp]
      go_enter Try.func79, Try.ntmps79
      go_wp2
      go_ret
      exact ⟨rfl, rfl⟩
    · rw [show (false || decide (x = t)) = false by simp [h]]
      have hb : (x == t) = false := by simpa using h
      go_enter Try.func79, Try.ntmps79
      go_wp2
      go_ret
      exact ⟨by first | rfl | rw [hb]; rfl, by first | rfl | rw [hb]⟩
  · rw [show (true || decide (x = t)) = true by simp]
    go_enter Try.func79, Try.ntmps79
    go_wp2
    go_ret
    exact ⟨rfl, rfl⟩
theorem chain1 (x : Int) (O : Nat) (v : Value) (zs : List Int) (w : World) (hO : Blk w O 22 #[v]) (hv : Sl 3 .i64 w v zs) (hl : zs.length < 64) : Calls Try.prog 84 #[.int .i64 x, .pointer (some ⟨O, 0, none⟩)] w fun e w' => e = .returned (.bool true) ∧ ∃ v', Blk w' O 22 #[v'] ∧ Sl 3 .i64 w' v' (zs ++ [x]) ∧ Ch (O :: sb v) w w' ∧ Foot w (sb v) (sb v') := by
  obtain ⟨c1, c2⟩ := hO.c1
  have HO := Lib.hid hO
  have hne := hv.ne hO (by decide)
  clear hO
  go_enter Try.func84, Try.ntmps84
  go_wp2_with (at_builtin; refine wpList_sl1 el22 .i64 (.tmp 4) (.tmp 6) _ _ _ _ _ rfl rfl rfl rfl hv ?_ ?_ ?_)
  · omega
  · omega
  intro v' w' hv' hch hf
  have hO' := HO.out.ch hch hne
  obtain ⟨d1, d2⟩ := hO'.c1
  have HO' := Lib.hid (And.intro hO' (And.intro hch hf))
  obtain ⟨va, vc, rfl, _, _⟩ := hv'.len
  have HV := Lib.hid hv'
  clear hO' hch hf c1 c2 hv'
  go_wp2_with fail
  go_ret
  obtain ⟨hO', hch, hf⟩ := HO'.out
  have hv' := HV.out
  have hlen : (zs ++ [x]).length = zs.length + 1 := by simp
  rw [hlen] at hv' hf
  exact ⟨rfl, _, hO'.st 0 _, hv'.ch ((Ch.refl [O] _).st (p := ⟨O, 0, none⟩) (by simp) _) (fun k hk hk' => by simp at hk'; subst hk'; exact hv'.ne hO' (by decide) hk), (hch.wide (by simp +contextual)).st (p := ⟨O, 0, none⟩) (.inl (by simp)) _, hf⟩
end Go.Proofs.Ytkkobbomipcpoaa
