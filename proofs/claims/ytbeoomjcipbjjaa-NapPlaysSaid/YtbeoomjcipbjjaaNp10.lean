/- The document's naps in memory (chapter 27), and the contracts of its At and Begin, for every input. -/
import Derived.Test.YtbeoomjcipbjjaaNp5
namespace Go.Proofs.Ytbeoomjcipbjjaa
open Go.RowKit
set_option linter.unusedVariables false

def NE.enc (x : NE) : List Value := [.int .i64 x.pl, .int .i64 x.kd, .int .u64 x.ti, .bool x.nv]
def encD (D : List NE) : List Value := D.flatMap NE.enc
theorem encD_app (D E : List NE) : encD (D ++ E) = encD D ++ encD E := List.flatMap_append
theorem encD_len : ∀ D : List NE, (encD D).length = D.length * 4
  | [] => rfl
  | x :: r => by
    have := encD_len r
    unfold encD at this ⊢
    rw [List.flatMap_cons, List.length_append, this]
    simp [NE.enc]; omega
theorem encD_get : ∀ (D : List NE) (i : Nat) (x : NE), D[i]? = some x → (encD D)[i * 4]? = some (.int .i64 x.pl) ∧ (encD D)[i * 4 + 1]? = some (.int .i64 x.kd) ∧ (encD D)[i * 4 + 2]? = some (.int .u64 x.ti) ∧ (encD D)[i * 4 + 3]? = some (.bool x.nv)
  | [], i, x, h => by simp at h
  | y :: r, 0, x, h => by
    simp at h
    subst h
    exact ⟨rfl, rfl, rfl, rfl⟩
  | y :: r, i + 1, x, h => by
    have ih := encD_get r i x (by simpa using h)
    have e : ∀ j, (encD (y :: r))[(i + 1) * 4 + j]? = (encD r)[i * 4 + j]? := fun j => by
      show (y.enc ++ encD r)[(i + 1) * 4 + j]? = _
      rw [List.getElem?_append_right (by simp [NE.enc]; omega)]
      simp only [NE.enc, List.length_cons, List.length_nil]
      congr 1; omega
    have e0 := e 0
    rw [Nat.add_zero, Nat.add_zero] at e0
    rw [e0, e 1, e 2, e 3]
    exact ih
theorem encD_take : ∀ (D : List NE) (i : Nat), encD (D.take i) = (encD D).take (i * 4)
  | [], i => by simp [encD]
  | y :: r, 0 => by simp [encD]
  | y :: r, i + 1 => by
    show y.enc ++ encD (r.take i) = (y.enc ++ encD r).take ((i + 1) * 4)
    rw [encD_take r i, show (i + 1) * 4 = y.enc.length + i * 4 by simp [NE.enc]; omega, List.take_length_add_append]
theorem encD_drop : ∀ (D : List NE) (i : Nat), encD (D.drop i) = (encD D).drop (i * 4)
  | [], i => by simp [encD]
  | y :: r, 0 => by simp
  | y :: r, i + 1 => by
    show encD (r.drop i) = (y.enc ++ encD r).drop ((i + 1) * 4)
    rw [encD_drop r i, show (i + 1) * 4 = y.enc.length + i * 4 by simp [NE.enc]; omega, List.drop_length_add_append]
/-- The document's naps: the clock, and the row. -/
structure ND (w : World) (r : Nat) (n : Int) (D : List NE) (v : Value) : Prop where
  hdr : Blk w r 72 #[.int .u64 n, v]
  row : SC 4 77 w v D.length (encD D)
section
variable {w w' : World} {r : Nat} {n : Int} {D : List NE} {v : Value} {T : List Nat} (m : ND w r n D v)
include m
theorem ND.gr (k : Gr w w') : ND w' r n D v := ⟨m.hdr.gr k, m.row.gr k⟩
theorem ND.nr : r ∉ sb v := m.row.ne m.hdr (by decide)
theorem ND.ch (k : Ch T w w') (h : Disj (r :: sb v) T) : ND w' r n D v := ⟨m.hdr.ch k (h r (by simp)), m.row.ch k (fun x hx => h x (by simp [hx]))⟩
theorem ND.inn : In w (r :: sb v) := fun b hb => by
  rcases List.mem_cons.1 hb with rfl | hb
  · exact m.hdr.lt
  · exact m.row.inn b hb
end
/-- Where a place's nap stands. -/
def AtIs (D : List NE) (p k : Int) : Prop := (k = -1 ∧ ∀ x ∈ D, (x.pl : Int) ≠ p) ∨ ∃ (i : Nat) (x : NE), k = i ∧ D[i]? = some x ∧ (x.pl : Int) = p
theorem dat (r : Nat) (n : Int) (D : List NE) (v : Value) (p : Int) (w : World) (m : ND w r n D v) (hD : D.length ≤ 64) : Calls Try.prog 33 #[.pointer (some ⟨r, 0, none⟩), .int .i64 p] w fun e w' => ∃ k, e = .returned (.int .i64 k) ∧ AtIs D p k ∧ w = w' := by
  obtain ⟨c0, c1, cf⟩ := m.hdr.c2
  obtain ⟨a, cp, rfl, _, _⟩ := m.row.len
  have HM := Lib.hid m
  clear m
  go_enter Try.func33, Try.ntmps33
  go_wp2_with fail
  go_loopw [5] (fun i wr => ∃ k : Nat, k ≤ D.length ∧ i = .int .i64 k ∧ (∀ j x, j < k → D[j]? = some x → (x.pl : Int) ≠ p) ∧ w = wr) (fun i _ => D.length - (intOf i).toNat)
  case atStart => exact ⟨0, by omega, rfl, fun _ _ h => by omega, rfl⟩
  case round =>
    obtain ⟨k, hk, rfl, hall, rfl⟩ := hrel
    have HA := Lib.hid hall
    clear hall
    by_cases hlt : k < D.length
    · have i1 : (k : Int) < (D.length : Int) := by omega
      obtain ⟨x, hx⟩ : ∃ x, D[k]? = some x := ⟨D[k], by simp [hlt]⟩
      obtain ⟨b, o, c, he, _, _, hc, _, _⟩ := HM.out.row.cells (by omega)
      cases he
      have x0 := hc _ _ (encD_get D k x hx).1
      have HX := Lib.hid hx
      clear hc hx
      by_cases hp : (x.pl : Int) = p
      · have q1 : ((x.pl : Int) == p) = true := by simpa using hp
        have HP := Lib.hid hp
        clear hp
        go_wp2_with fail
        go_ret
        exact ⟨k, rfl, .inr ⟨k, x, rfl, HX.out, HP.out⟩, rfl⟩
      · have q1 : ((x.pl : Int) == p) = false := by simpa using hp
        have HP := Lib.hid hp
        clear hp
        go_wp2_with fail
        go_roundw
        case rel =>
          refine ⟨k + 1, by omega, by go_num, fun j y hj hy => ?_, trivial⟩
          by_cases e : j = k
          · subst e
            rw [HX.out] at hy
            cases hy
            exact HP.out
          · exact HA.out j y (by omega) hy
        case measure => simp [intOf]; omega
    · obtain rfl : k = D.length := by omega
      go_wp2_with fail
      go_ret
      refine ⟨-1, rfl, .inl ⟨rfl, fun x hx => ?_⟩, rfl⟩
      obtain ⟨j, hj, rfl⟩ := List.mem_iff_getElem.1 hx
      exact HA.out j _ hj (by simp [hj])
theorem AtIs.neg {s : TS} {K : Nat → Int} {D : List NE} (h : NR s K D) {p k : Int} (a : AtIs D p k) : (kdS K p = 0 ∧ k = -1) ∨ (kdS K p ≠ 0 ∧ ∃ (i : Nat) (x : NE), k = i ∧ D[i]? = some x ∧ p = x.pl ∧ x.pl < 64) := by
  rcases a with ⟨rfl, hn⟩ | ⟨i, x, rfl, hi, rfl⟩
  · refine .inl ⟨?_, rfl⟩
    by_cases hp : 0 ≤ p ∧ p < 64
    · obtain ⟨j, rfl⟩ := Int.eq_ofNat_of_zero_le hp.1
      rw [kdS_at K (by omega)]
      exact h.not_at fun x hx e => hn x hx (by omega)
    · exact kdS_no K hp
  · obtain ⟨m1, m2, m3, _⟩ := h.mem x (List.mem_of_getElem? hi)
    exact .inr ⟨by rw [kdS_at K m1, m2]; exact m3, i, x, rfl, hi, rfl, m1⟩
end Go.Proofs.Ytbeoomjcipbjjaa
