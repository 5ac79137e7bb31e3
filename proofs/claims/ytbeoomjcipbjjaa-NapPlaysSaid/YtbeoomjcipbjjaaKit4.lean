/- Rows of records in memory (slices of structs): m records of n cells each. No program, no conditions. -/
import Derived.Test.YtbeoomjcipbjjaaKit3
import Derived.Laws.MakeOwn
namespace Go.Proofs.Ytbeoomjcipbjjaa
open Go.RowKit

/-- m records of n cells each: cell k of record i is G i k. -/
def recs (m n : Nat) (G : Nat → Nat → Value) : Array Value := (tab (m * n) fun j => G (j / n) (j % n)).toArray
theorem recs_size (m n : Nat) (G : Nat → Nat → Value) : (recs m n G).size = m * n := by simp [recs, tab_length]
theorem rec_lt {m n i k : Nat} (hi : i < m) (hk : k < n) : i * n + k < m * n := by
  have : (i + 1) * n ≤ m * n := Nat.mul_le_mul_right n hi
  rw [Nat.add_mul] at this
  omega
theorem rec_div {n k : Nat} (i : Nat) (hk : k < n) : (i * n + k) / n = i ∧ (i * n + k) % n = k := by
  constructor
  · rw [Nat.mul_comm, Nat.mul_add_div (by omega), Nat.div_eq_of_lt hk, Nat.add_zero]
  · rw [Nat.mul_comm, Nat.mul_add_mod, Nat.mod_eq_of_lt hk]
theorem recs_get (m n : Nat) (G : Nat → Nat → Value) (i k : Nat) (hi : i < m) (hk : k < n) : (recs m n G)[i * n + k]? = some (G i k) := by
  have h := rec_div i hk
  have e := tab_get (m * n) (fun j => G (j / n) (j % n)) (i * n + k) (rec_lt hi hk)
  simp only [h.1, h.2] at e
  simpa [recs] using e
def setG (G : Nat → Nat → Value) (i k : Nat) (v : Value) : Nat → Nat → Value := fun i' k' => if i' = i ∧ k' = k then v else G i' k'
theorem recs_set (m n : Nat) (G : Nat → Nat → Value) (i k : Nat) (v : Value) (hk : k < n) : (recs m n G).setIfInBounds (i * n + k) v = recs m n (setG G i k v) := by
  unfold recs
  rw [List.setIfInBounds_toArray, tab_set]
  congr 1
  refine tab_congr _ _ _ fun j _ => ?_
  unfold setG
  have hn : 0 < n := by omega
  by_cases h : j = i * n + k
  · subst h
    have h := rec_div i hk
    rw [if_pos rfl, if_pos h]
  · rw [if_neg h]
    rw [if_neg (fun ⟨h1, h2⟩ => h (by have := Nat.div_add_mod j n; rw [h1, h2, Nat.mul_comm] at this; omega))]
theorem recs_congr (m n : Nat) (G G' : Nat → Nat → Value) (h : ∀ i k, i < m → k < n → G i k = G' i k) : recs m n G = recs m n G' := by
  unfold recs
  congr 1
  refine tab_congr _ _ _ fun j hj => h _ _ ?_ ?_
  · by_cases hn : n = 0
    · subst hn; omega
    · exact Nat.div_lt_of_lt_mul (by rw [Nat.mul_comm]; exact hj)
  · by_cases hn : n = 0
    · subst hn; omega
    · exact Nat.mod_lt _ (by omega)
theorem recs_one (m n : Nat) (G : Nat → Nat → Value) (h : ∀ i k, i < m → k < n → (G i k).oneCell' = true) : (recs m n G).all (·.oneCell') = true := by
  rw [Array.all_eq_true_iff_forall_mem]
  intro x hx
  simp only [recs, tab, List.mem_toArray, List.mem_map, List.mem_range] at hx
  obtain ⟨j, hj, rfl⟩ := hx
  by_cases hn : n = 0
  · subst hn; omega
  · exact h _ _ (Nat.div_lt_of_lt_mul (by rw [Nat.mul_comm]; exact hj)) (Nat.mod_lt _ (by omega))

/-- make([]T, m): a new row of m records, each as the zero value z. -/
theorem run_make_recs {P : Program} {t e : TypeId} {z : Value} {size bytes : Nat} (E : Elem P t e z size bytes) (m : Nat) (hb : bytes * m ≤ 281474976710656) (hm : m ≤ 9223372036854775807) (w : World) :
    (Instr.makeSlice t (.int .i64 (m : Int)) (.int .i64 (m : Int))).run P w = .ok (.slice (some ⟨w.heap.size, 0, none⟩) m m) (w.alloc (.cells (recs m size fun _ k => z.cells[k]!) e)) := by
  obtain ⟨i, hi, hz, hs1, hs2⟩ := info_parts E.info
  have hb' : (i.bytes : Int) * (m : Int) ≤ 281474976710656 := by
    have h : ((i.bytes * m : Nat) : Int) ≤ 281474976710656 := by rw [hs2]; omega
    rwa [Int.natCast_mul] at h
  have hr := run_make (P := P) w t e i z E.und hi hz .i64 .i64 m m (by omega) (Int.le_refl _) hb' (by omega)
  simp only [Int.toNat_natCast] at hr
  rw [hr]
  congr 3
  rw [hs1]
  unfold madeCells recs tab
  apply Array.ext_getElem?
  intro j
  have hzs := E.zs
  by_cases hj : j < m * size <;> simp [hj, hzs]
end Go.Proofs.Ytbeoomjcipbjjaa
