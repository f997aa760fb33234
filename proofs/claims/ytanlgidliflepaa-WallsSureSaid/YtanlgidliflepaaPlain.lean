/- Plain law: what parse makes of frames one behind the other, of noughts, and of what a failure leaves of them. Conditions: none. -/
import Derived.Test.YtanlgidliflepaaLog
namespace Go.Proofs.Ytanlgidliflepaa

theorem numK_be4 (n : Nat) (h : n < 4294967296) : numK (be4 n) = n := by
  simp only [numK, be4, List.foldl_cons, List.foldl_nil, UInt8.toNat_ofNat']; omega
theorem frame_take4 (r x : List UInt8) : (frame r ++ x).take 4 = be4 r.length := by
  rw [frame, List.append_assoc, List.take_append_of_le_length (by rw [be4_length]; exact Nat.le_refl _)]; exact List.take_of_length_le (by rw [be4_length]; exact Nat.le_refl _)
theorem frame_data (r x : List UInt8) : ((frame r ++ x).drop 8).take r.length = r := by
  rw [frame]
  simp only [List.append_assoc]
  rw [show (8 : Nat) = 4 + 4 from rfl, ← List.drop_drop, List.drop_left' (be4_length _), List.drop_left' (be4_length _), List.take_left]
theorem getF_frame (r x : List UInt8) (h : r.length ≤ 16384) : getF (frame r ++ x) = some (r, secs r.length) := by
  have hs := secs_ge r.length
  have hfl := frame_length r
  have hk : numK ((frame r ++ x).take 4) = r.length := by rw [frame_take4, numK_be4 _ (by omega)]
  unfold getF
  rw [hk, frame_data, if_neg (by rw [List.length_append]; omega), if_neg (by omega), if_neg (by rw [List.length_append]; omega), ← hfl, List.take_left, if_pos rfl]

def cat (rs : List (List UInt8)) : List UInt8 := rs.flatMap frame
def secsAll (rs : List (List UInt8)) : Nat := (rs.map fun r => secs r.length).sum
def fit (rs : List (List UInt8)) : Prop := ∀ r ∈ rs, r.length ≤ 16384
def pairs (rs : List (List UInt8)) : List (List UInt8 × Nat) := rs.map fun r => (r, secs r.length)
theorem cat_length : ∀ rs : List (List UInt8), (cat rs).length = secsAll rs * 64
  | [] => rfl
  | r :: rs => by
    have := cat_length rs
    simp only [cat, secsAll, List.flatMap_cons, List.length_append, frame_length, List.map_cons, List.sum_cons] at this ⊢; omega
theorem cat_append (a b : List (List UInt8)) : cat (a ++ b) = cat a ++ cat b := by simp [cat]
theorem secsAll_append (a b : List (List UInt8)) : secsAll (a ++ b) = secsAll a + secsAll b := by simp [secsAll]
theorem secs_pos (n : Nat) : 1 ≤ secs n := by unfold secs; omega

theorem parse_cat (rs : List (List UInt8)) (h : fit rs) (z : List UInt8) : parse (cat rs ++ z) = pairs rs ++ parse z := by
  induction rs with
  | nil => rfl
  | cons r rs ih =>
    have hg := getF_frame r (cat rs ++ z) (h r (by simp))
    rw [show cat (r :: rs) ++ z = frame r ++ (cat rs ++ z) by simp [cat], parse_step hg, ← frame_length, List.drop_left, ih (fun x hx => h x (by simp [hx]))]
    rfl

/-- A frame never begins with eight noughts. -/
theorem frame_nil : (frame []).take 8 ≠ zeros 8 := by decide +kernel
theorem frame_head (r : List UInt8) (h : r.length ≤ 16384) : (frame r).take 8 ≠ zeros 8 := by
  intro e
  have h4 : (frame r).take 4 = zeros 4 := by
    have := congrArg (List.take 4) e
    rwa [List.take_take] at this
  have h5 := frame_take4 r []
  rw [List.append_nil, h4] at h5
  have hn := congrArg numK h5
  rw [numK_be4 _ (by omega)] at hn
  have h0 : r.length = 0 := by rw [← hn]; rfl
  obtain rfl := List.eq_nil_of_length_eq_zero h0
  exact frame_nil e

theorem getF_head {l r : List UInt8} {k : Nat} (h : getF l = some (r, k)) : l.take 8 ≠ zeros 8 := by
  obtain ⟨h1, h2, h3, h4, _⟩ := getF_some h
  intro e
  apply frame_head r h4
  rw [h3, List.take_take, ← e]; congr 1; omega
theorem getF_zeros (n : Nat) : getF (zeros n) = none := by
  cases h : getF (zeros n) with
  | none => rfl
  | some x =>
    obtain ⟨r, k⟩ := x
    obtain ⟨h1, h2, _⟩ := getF_some h
    exact absurd (by simp only [zeros, List.length_replicate, List.take_replicate] at h2 ⊢; congr 1; omega) (getF_head h)
theorem parse_zeros (n : Nat) : parse (zeros n) = [] := parse_end (getF_zeros n)
theorem parse_cat_zeros (rs : List (List UInt8)) (h : fit rs) (n : Nat) : parse (cat rs ++ zeros n) = pairs rs := by rw [parse_cat rs h, parse_zeros, List.append_nil]

theorem parse_back_n : ∀ (n : Nat) (l : List UInt8), l.length ≤ n → ∃ rs, fit rs ∧ parse l = pairs rs ∧ cat rs = l.take (used l * 64) ∧ used l = secsAll rs := by
  intro n
  induction n with
  | zero =>
    intro l hl
    have : getF l = none := by
      cases h : getF l with
      | none => rfl
      | some x => obtain ⟨r, k⟩ := x; obtain ⟨h1, h2, _⟩ := getF_some h; omega
    exact ⟨[], fun _ h => absurd h (by simp), parse_end this, by unfold used; rw [parse_end this]; simp [cat], by unfold used; rw [parse_end this]; rfl⟩
  | succ n ih =>
    intro l hl
    cases h : getF l with
    | none => exact ⟨[], fun _ h => absurd h (by simp), parse_end h, by unfold used; rw [parse_end h]; simp [cat], by unfold used; rw [parse_end h]; rfl⟩
    | some x =>
      obtain ⟨r, k⟩ := x
      obtain ⟨h1, h2, h3, h4, h5⟩ := getF_some h
      obtain ⟨rs, i1, i2, i3, i4⟩ := ih (l.drop (k * 64)) (by rw [List.length_drop]; omega)
      have hu : used l = k + used (l.drop (k * 64)) := by unfold used; rw [parse_step h]; simp
      refine ⟨r :: rs, ?_, ?_, ?_, ?_⟩
      · intro y hy; rcases List.mem_cons.1 hy with rfl | hy
        · exact h4
        · exact i1 y hy
      · rw [parse_step h, i2, h5]; rfl
      · rw [show cat (r :: rs) = frame r ++ cat rs by simp [cat], i3, h3, hu, show (k + used (l.drop (k * 64))) * 64 = k * 64 + used (l.drop (k * 64)) * 64 by omega, List.take_add]
      · rw [hu, i4, h5]; simp [secsAll]
theorem parse_back (l : List UInt8) : ∃ rs, fit rs ∧ parse l = pairs rs ∧ cat rs = l.take (used l * 64) ∧ used l = secsAll rs := parse_back_n _ l (Nat.le_refl _)
end Go.Proofs.Ytanlgidliflepaa
