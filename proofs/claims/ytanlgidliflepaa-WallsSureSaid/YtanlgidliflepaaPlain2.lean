/- Plain law: a log's disk: what it holds behind Add, Sync, Open and Fail. Conditions: none. -/
import Derived.Test.YtanlgidliflepaaPlain
namespace Go.Proofs.Ytanlgidliflepaa

/-- The disk holds the frames of rs, and noughts behind them; at: the sector behind. -/
structure Holds (S : Dk) (at_ : Nat) (rs : List (List UInt8)) : Prop where
  ok : S.ok
  fit : fit rs
  eq : at_ = secsAll rs
  le : at_ ≤ S.n
  seen : S.seen = cat rs ++ zeros ((S.n - at_) * 64)

theorem Holds.parse {S : Dk} {at_ : Nat} {rs : List (List UInt8)} (h : Holds S at_ rs) : parse S.seen = pairs rs := by rw [h.seen, parse_cat_zeros rs h.fit]
theorem used_pairs {l : List UInt8} {rs : List (List UInt8)} (h : parse l = pairs rs) : used l = secsAll rs := by
  unfold used; rw [h]; simp [pairs, secsAll, Function.comp_def]
theorem Holds.used {S : Dk} {at_ : Nat} {rs : List (List UInt8)} (h : Holds S at_ rs) : used S.seen = at_ := by rw [used_pairs h.parse, h.eq]
theorem Holds.sync {S : Dk} {at_ : Nat} {rs : List (List UInt8)} (h : Holds S at_ rs) : Holds S.sync at_ rs := ⟨Dk.sync_ok h.ok, h.fit, h.eq, h.le, h.seen⟩

theorem splice_two {α : Type} (L : List α) (o : Nat) (a b : List α) (h : o + a.length + b.length ≤ L.length) : splice (splice L o a) (o + a.length) b = splice L o (a ++ b) := by
  apply List.ext_getElem?
  intro i
  have h1 := splice_length L o a (by omega)
  rw [splice_get _ _ _ (by rw [h1]; omega), splice_get _ _ _ (by omega), splice_get _ _ _ (by rw [List.length_append]; omega)]
  simp only [List.length_append]
  by_cases c1 : i < o
  · simp [c1, show i < o + a.length from by omega]
  · by_cases c2 : i < o + a.length
    · simp [c1, c2, show i < o + (a.length + b.length) from by omega, List.getElem?_append_left (show i - o < a.length from by omega)]
    · by_cases c3 : i < o + a.length + b.length
      · simp [c1, c2, c3, show i < o + (a.length + b.length) from by omega, List.getElem?_append_right (show a.length ≤ i - o from by omega), show i - (o + a.length) = i - o - a.length from by omega]
      · simp [c1, c2, c3, show ¬ i < o + (a.length + b.length) from by omega]
theorem splice_nil {α : Type} (L : List α) (o : Nat) (h : o ≤ L.length) : splice L o [] = L := by
  apply List.ext_getElem?
  intro i
  rw [splice_get _ _ _ (by simpa using h)]; simp; omega
theorem splice_end {α : Type} (a z : List α) (b : List α) (h : b.length ≤ z.length) : splice (a ++ z) a.length b = a ++ b ++ z.drop b.length := by
  apply List.ext_getElem?
  intro i
  rw [splice_get _ _ _ (by rw [List.length_append]; omega)]
  by_cases c1 : i < a.length
  · simp [c1, List.getElem?_append_left]
  · by_cases c2 : i < a.length + b.length
    · simp [c1, c2, List.getElem?_append_right (show a.length ≤ i from by omega), List.getElem?_append_left (show i - a.length < b.length from by omega)]
    · simp [c1, c2, List.getElem?_append_right (show a.length ≤ i from by omega), List.getElem?_append_right (show b.length ≤ i - a.length from by omega), show b.length + (i - a.length - b.length) = i - a.length from by omega]
theorem zeros_drop (n k : Nat) : (zeros n).drop k = zeros (n - k) := by simp [zeros]
theorem zeros_length (n : Nat) : (zeros n).length = n := by simp [zeros]

theorem addTo_seen {S : Dk} (h : S.ok) (at_ : Nat) (f : List UInt8) : ∀ k, at_ + k ≤ S.n → k * 64 ≤ f.length → (addTo S at_ f k).seen = splice S.seen (at_ * 64) (f.take (k * 64))
  | 0, h1, _ => by simp only [addTo, Nat.zero_mul, List.take_zero]; rw [splice_nil]; rw [h.seen]; omega
  | k + 1, h1, h2 => by
    have ih := addTo_seen h at_ f k (by omega) (by omega)
    have hl : (f.take (k * 64)).length = k * 64 := by rw [List.length_take]; omega
    rw [addTo]
    show splice (addTo S at_ f k).seen ((at_ + k) * 64) _ = _
    rw [ih, show (at_ + k) * 64 = at_ * 64 + (f.take (k * 64)).length by omega, splice_two _ _ _ _ (by rw [hl, h.seen, List.length_take, List.length_drop]; omega), show (k + 1) * 64 = k * 64 + 64 by omega, List.take_add]

theorem Holds.add {S : Dk} {at_ : Nat} {rs : List (List UInt8)} (h : Holds S at_ rs) (r : List UInt8) (hr : r.length ≤ 16384) (hf : at_ + secs r.length ≤ S.n) : Holds (S.add at_ r) (at_ + secs r.length) (rs ++ [r]) := by
  have hfl := frame_length r
  obtain ⟨h1, h2, h3⟩ := addTo_ok h.ok at_ (frame r) (secs r.length) hf (by omega)
  refine ⟨h1, ?_, ?_, ?_, ?_⟩
  · intro x hx; rcases List.mem_append.1 hx with hx | hx
    · exact h.fit x hx
    · obtain rfl := List.mem_singleton.1 hx; exact hr
  · rw [secsAll_append, ← h.eq]; simp [secsAll]
  · show _ ≤ (addTo S at_ (frame r) (secs r.length)).n; omega
  · show (addTo S at_ (frame r) (secs r.length)).seen = _ ++ zeros (((addTo S at_ (frame r) (secs r.length)).n - _) * 64)
    rw [addTo_seen h.ok at_ (frame r) _ hf (by omega), h2, List.take_of_length_le (by omega), h.seen, show at_ * 64 = (cat rs).length by rw [cat_length, h.eq], splice_end _ _ _ (by rw [zeros_length, hfl, Nat.sub_mul]; omega), cat_append, zeros_drop, hfl]
    rw [show cat [r] = frame r by simp [cat]]; congr 2; omega

/-- Sectors. -/
def sector (L : List UInt8) (s : Nat) : List UInt8 := (L.drop (s * 64)).take 64
theorem clearTo_seen {S : Dk} (h : S.ok) (u : Nat) : ∀ k, u + k ≤ S.n → (clearTo S S.seen u k).seen = S.seen.take (u * 64) ++ zeros (k * 64) ++ S.seen.drop ((u + k) * 64)
  | 0, _ => by simp [clearTo, zeros]
  | k + 1, hk => by
    have ih := clearTo_seen h u k (by omega)
    have hl : (S.seen.take (u * 64)).length = u * 64 := by rw [List.length_take, h.seen]; omega
    have hsec : S.seen.drop ((u + k) * 64) = (S.seen.drop ((u + k) * 64)).take 64 ++ S.seen.drop ((u + (k + 1)) * 64) := by
      conv => lhs; rw [← List.take_append_drop 64 (S.seen.drop ((u + k) * 64))]
      rw [List.drop_drop]; congr 2; omega
    have hz : zeros ((k + 1) * 64) = zeros (k * 64) ++ zeros 64 := by simp only [zeros]; rw [List.replicate_append_replicate]; congr 1; omega
    rw [clearTo]
    split
    · rename_i he
      rw [ih, hsec, he, hz]; simp [List.append_assoc]
    · show splice (clearTo S S.seen u k).seen ((u + k) * 64) (zeros 64) = _
      rw [ih, show (u + k) * 64 = (S.seen.take (u * 64) ++ zeros (k * 64)).length by rw [List.length_append, hl, zeros_length]; omega, splice_end _ _ _ (by rw [zeros_length, List.length_drop, List.length_append, hl, zeros_length, h.seen]; omega), zeros_length, List.drop_drop, hz]
      rw [List.length_append, hl, zeros_length]
      simp only [List.append_assoc]; congr 4; omega
theorem opened_all {S : Dk} (h : S.ok) : ∃ rs, parse S.seen = pairs rs ∧ Holds S.opened (used S.seen) rs ∧ S.opened.sure = S.opened.seen ∧ S.opened.waits = [] ∧ S.opened.n = S.n := by
  obtain ⟨rs, h1, h2, h3, h4⟩ := parse_back S.seen
  have hu := used_le S.seen
  rw [h.seen] at hu
  obtain ⟨c1, c2, c3⟩ := clearTo_ok h S.seen (used S.seen) (S.n - used S.seen) (by omega)
  have hs := clearTo_seen h (used S.seen) (S.n - used S.seen) (by omega)
  refine ⟨rs, h2, ⟨Dk.sync_ok c1, h1, h4, ?_, ?_⟩, rfl, rfl, c2⟩
  · show _ ≤ (clearTo S S.seen (used S.seen) (S.n - used S.seen)).n; omega
  · show (clearTo S S.seen (used S.seen) (S.n - used S.seen)).seen = _ ++ zeros (((clearTo S S.seen (used S.seen) (S.n - used S.seen)).n - _) * 64)
    rw [hs, c2, h3, List.drop_of_length_le (by rw [h.seen]; omega), List.append_nil]
end Go.Proofs.Ytanlgidliflepaa
