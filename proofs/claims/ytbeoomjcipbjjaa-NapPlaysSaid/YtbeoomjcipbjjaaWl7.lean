/- What a wheel's stores leave, and the contracts of lay, Set and Cancel, for every input. -/
import Derived.Test.YtbeoomjcipbjjaaWl6
namespace Go.Proofs.Ytbeoomjcipbjjaa
open Go.RowKit
set_option linter.unusedVariables false

section
variable {w w' w'' : World} {g : Nat} {s s' : TS} {L : Nat → List Int} {V : Nat → Value}
theorem WMem.notg (m : WMem w g s L V) {j : Nat} (hj : j < 257) : g ∉ sb (V j) := (m.sl j hj).ne m.hdr (by decide)
theorem WMem.hdrst (m : WMem w g s L V) (k : Ch [g] w w') (h' : Arr w' g 86 387 (whF s' V)) : WMem w' g s' L V :=
  ⟨h', fun j hj => (m.sl j hj).ch k (fun b hb hm => by simp at hm; subst hm; exact m.notg hj hb), m.dj⟩
theorem WMem.stNow (m : WMem w g s L V) (x : Int) : WMem (w.setCell ⟨g, 0, none⟩ (.int .u64 x)) g ⟨x, s.last, s.du, s.no⟩ L V :=
  m.hdrst ((Ch.refl _ _).st (by simp) _) ((m.hdr.st 0 _).congr fun j _ => by
    unfold updF
    match j with
    | 0 => rfl
    | 1 => rfl
    | j + 2 => rfl)
theorem WMem.stLast (m : WMem w g s L V) (x : Int) : WMem (w.setCell ⟨g, 1, none⟩ (.int .u64 x)) g ⟨s.now, x, s.du, s.no⟩ L V :=
  m.hdrst ((Ch.refl _ _).st (by simp) _) ((m.hdr.st 1 _).congr fun j _ => by
    unfold updF
    match j with
    | 0 => rfl
    | 1 => rfl
    | j + 2 => rfl)
theorem WMem.stTm (m : WMem w g s L V) {p : Nat} (hp : p < 64) (a b : Int) : WMem ((w.setCell ⟨g, 2 + p * 2, none⟩ (.int .u64 a)).setCell ⟨g, 2 + p * 2 + 1, none⟩ (.int .u64 b)) g ⟨s.now, s.last, updT s.du p a, updT s.no p b⟩ L V :=
  m.hdrst (((Ch.refl _ _).st (by simp) _).st (by simp) _) (((m.hdr.st (2 + p * 2) _).st (2 + p * 2 + 1) _).congr fun j _ => by
    unfold updF
    match j with
    | 0 => rw [if_neg (by omega), if_neg (by omega)]; rfl
    | 1 => rw [if_neg (by omega), if_neg (by omega)]; rfl
    | j + 2 =>
      show _ = (if j < 128 then Value.int .u64 (if j % 2 = 0 then updT s.du p a (j / 2) else updT s.no p b (j / 2)) else V (j - 128))
      by_cases h1 : j + 2 = 2 + p * 2 + 1
      · rw [if_pos h1, if_pos (by omega), if_neg (by omega), show j / 2 = p by omega, updT_same]
      · rw [if_neg h1]
        by_cases h2 : j + 2 = 2 + p * 2
        · rw [if_pos h2, if_pos (by omega), if_pos (by omega), show j / 2 = p by omega, updT_same]
        · rw [if_neg h2]
          show (if j < 128 then _ else _) = _
          by_cases h3 : j < 128
          · rw [if_pos h3, if_pos h3]
            by_cases h4 : j % 2 = 0
            · rw [if_pos h4, if_pos h4, updT_ne _ _ (by omega)]
            · rw [if_neg h4, if_neg h4, updT_ne _ _ (by omega)]
          · rw [if_neg h3, if_neg h3])
/-- A list's slice, and what it holds, change. -/
theorem WMem.setL (m : WMem w g s L V) {j : Nat} (hj : j < 257) {v' : Value} {l' : List Int} (k : Ch (sb (V j)) w w') (f : Foot w (sb (V j)) (sb v')) (r : Sl 3 .i64 w' v' l') :
    WMem (w'.setCell ⟨g, 130 + j, none⟩ v') g s (updT L j l') (updT V j v') := by
  have hh : Arr w' g 86 387 (whF s V) := m.hdr.ch k (m.notg hj)
  have kg : Ch [g] w' (w'.setCell ⟨g, 130 + j, none⟩ v') := (Ch.refl _ _).st (by simp) _
  refine ⟨(hh.st (130 + j) v').congr fun i _ => ?_, fun i hi => ?_, fun a b ha hb hab => ?_⟩
  · unfold updF
    match i with
    | 0 => rw [if_neg (by omega)]; rfl
    | 1 => rw [if_neg (by omega)]; rfl
    | i + 2 =>
      show _ = (if i < 128 then _ else updT V j v' (i - 128))
      by_cases h1 : i + 2 = 130 + j
      · rw [if_pos h1, if_neg (by omega), show i - 128 = j by omega, updT_same]
      · rw [if_neg h1]
        show (if i < 128 then _ else V (i - 128)) = _
        by_cases h2 : i < 128
        · rw [if_pos h2, if_pos h2]
        · rw [if_neg h2, if_neg h2, updT_ne _ _ (by omega)]
  · by_cases e : i = j
    · subst e
      rw [updT_same, updT_same]
      exact r.ch kg (fun b hb hm => by simp at hm; subst hm; exact r.ne hh (by decide) hb)
    · rw [updT_ne _ _ e, updT_ne _ _ e]
      exact ((m.sl i hi).ch k (m.dj i j hi hj e)).ch kg (fun b hb hm => by simp at hm; subst hm; exact m.notg hi hb)
  · by_cases e : a = j
    · subst e
      rw [updT_same, updT_ne _ _ (Ne.symm hab)]
      exact (m.dj a b ha hb hab).foot (m.sl b hb).inn f
    · rw [updT_ne _ _ e]
      by_cases e2 : b = j
      · subst e2
        rw [updT_same]
        exact ((m.dj b a hb ha (Ne.symm hab)).foot (m.sl a ha).inn f).symm
      · rw [updT_ne _ _ e2]
        exact m.dj a b ha hb hab
theorem sb_wfp {g : Nat} {V : Nat → Value} {j : Nat} (hj : j < 257) : ∀ b ∈ sb (V j), b ∈ wfp g V := fun b hb => mem_wfp.2 (.inr ⟨j, hj, hb⟩)
theorem wfp_upd {g : Nat} {V : Nat → Value} {j : Nat} {v' : Value} (hj : j < 257) (f : Foot w (sb (V j)) (sb v')) : Foot w (wfp g V) (wfp g (updT V j v')) := fun b hb => by
  rcases mem_wfp.1 hb with rfl | ⟨i, hi, hb⟩
  · exact .inl (mem_wfp.2 (.inl rfl))
  · by_cases e : i = j
    · subst e
      rw [updT_same] at hb
      rcases f b hb with h1 | h1
      · exact .inl (sb_wfp hj b h1)
      · exact .inr h1
    · rw [updT_ne _ _ e] at hb
      exact .inl (sb_wfp hi b hb)
end
/-- What a change of the lists leaves. -/
def LayTo (g : Nat) (s : TS) (V : Nat → Value) (L' : Nat → List Int) (w w' : World) : Prop := ∃ V', WMem w' g s L' V' ∧ Ch (wfp g V) w w' ∧ Foot w (wfp g V) (wfp g V')
theorem LayTo.refl {g : Nat} {s : TS} {V : Nat → Value} {L : Nat → List Int} {w : World} (m : WMem w g s L V) : LayTo g s V L w w := ⟨V, m, Ch.refl _ _, Foot.refl _ _⟩
theorem LayTo.step {g : Nat} {s : TS} {V V1 : Nat → Value} {L2 : Nat → List Int} {w w1 w2 : World} (k : Ch (wfp g V) w w1) (f : Foot w (wfp g V) (wfp g V1)) (h : LayTo g s V1 L2 w1 w2) : LayTo g s V L2 w w2 := by
  obtain ⟨V', m, k', f'⟩ := h
  exact ⟨V', m, k.foot k' f, f.tr f' k.size⟩
theorem layTo_set {w w1 w' : World} {g : Nat} {s : TS} {L : Nat → List Int} {V : Nat → Value} (k0 : Gr w w1) (m : WMem w1 g s L V) {j : Nat} (hj : j < 257) {v' : Value} {l' : List Int} (k : Ch (sb (V j)) w1 w') (f : Foot w1 (sb (V j)) (sb v')) (r : Sl 3 .i64 w' v' l') :
    LayTo g s V (updT L j l') w (w'.setCell ⟨g, 130 + j, none⟩ v') := by
  refine ⟨_, m.setL hj k f r, ?_, ?_⟩
  · have k1 : Ch (wfp g V) w w' := (k0.ch _).tr k (fun b hb => .inl (sb_wfp hj b hb))
    exact k1.st (.inl (mem_wfp.2 (.inl rfl))) _
  · intro b hb
    rcases wfp_upd hj f b hb with h1 | h1
    · exact .inl h1
    · exact .inr (by have := k0.size_le; omega)
theorem addL_upd (L : Nat → List Int) (j : Nat) (x : Int) : updT L j (L j ++ [x]) = addL L j x := by
  funext i
  unfold updT addL
  split
  · rename_i h; rw [h]
  · rfl
theorem el30 : Elem Try.prog 30 3 (.int .i64 0) 1 8 := ⟨Try.underlying30, by kernel_rfl, rfl, by decide⟩

theorem wlay (g : Nat) (s : TS) (L : Nat → List Int) (V : Nat → Value) (p : Nat) (w : World) (m : WMem w g s L V) (hp : p < 64) (t : 0 ≤ s.now ∧ s.now ≤ 18446744073709551615) (hd : 0 ≤ s.du p ∧ s.du p ≤ 18446744073709551615) (hl : (L (hJ s.now (s.du p))).length ≤ 1000) :
    Calls Try.prog 36 #[.pointer (some ⟨g, 0, none⟩), .int .i64 p] w fun e w' => e = .returned (.tuple #[]) ∧ LayTo g s V (addL L (hJ s.now (s.du p)) p) w w' := by
  have CH := Lib.hid (home_any g s L V (s.du p) w m t hd)
  obtain ⟨c0, c1⟩ := m.tm hp
  have hj := hJ_lt s.now (s.du p)
  have M := Lib.hid m
  have i1 : (p : Int) < 64 := by omega
  generalize hJ s.now (s.du p) = j at *
  generalize s.du p = a at *
  clear m c1
  go_enter Try.func36, Try.ntmps36
  go_upto_region 1 with (go_at_call 52; refine (CH.out).mono ?_; rintro e w1 ⟨rfl, g1⟩)
  have M1 := Lib.hid (M.out.gr g1)
  have hc := M1.out.ls hj
  obtain ⟨n, k, hv, _, _⟩ := (M1.out.sl j hj).len
  rw [hv] at hc
  have HS : Hid (Sl 3 .i64 w1 (.slice n (L j).length k) (L j)) := Lib.hid (hv ▸ M1.out.sl j hj)
  have HF : Hid (sb (.slice n (L j).length k) = sb (V j)) := Lib.hid (by rw [hv])
  have hgl := M1.out.hdr.lt
  have hff := M1.out.hdr.frozen (130 + j)
  clear hv c0
  go_wp2_with (at_builtin; go_loud (refine wpList_sl1 el30 .i64 (.tmp 17) (.tmp 19) (.slice n (L j).length k) (L j) (p : Int) _ _ rfl rfl rfl rfl HS.out (by omega) (by omega) ?_; intro v2 w2 r2 k2 f2; rw [HF.out] at k2 f2; have HR := Lib.hid (And.intro r2 (And.intro k2 f2)); obtain ⟨n2, c2, rfl, _, _⟩ := r2.len; have hc2 := (M1.out.hdr.ch k2 (M1.out.notg hj)).cell (i := 130 + j) (by omega); have hf2 := (M1.out.hdr.ch k2 (M1.out.notg hj)).frozen (130 + j); clear r2 k2 f2))
  go_end0
  refine ⟨rfl, ?_⟩
  have := layTo_set g1 M1.out hj HR.out.2.1 HR.out.2.2 HR.out.1
  rw [addL_upd, List.length_append, List.length_singleton] at this
  exact this
end Go.Proofs.Ytbeoomjcipbjjaa
