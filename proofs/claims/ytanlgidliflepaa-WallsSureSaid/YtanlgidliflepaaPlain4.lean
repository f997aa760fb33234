/- Plain law: what is forced is there behind a failure, and no more records than were added. Conditions: none. -/
import Derived.Test.YtanlgidliflepaaPlain3
namespace Go.Proofs.Ytanlgidliflepaa

/-- Of the disk the records rsb are sure, in b sectors; all writes behind them wait, sector by sector. -/
structure Tail (S : Dk) (b : Nat) (rsb : List (List UInt8)) : Prop where
  le : b + S.waits.length ≤ S.n
  len : S.sure.length = S.n * 64
  seenl : S.seen.length = S.n * 64
  eq : b = secsAll rsb
  sure : S.sure = cat rsb ++ zeros ((S.n - b) * 64)
  ws : ∀ i x, S.waits[i]? = some x → x.1 = b + i ∧ x.2.length = 64 ∧ sector S.seen (b + i) = x.2

theorem Tail.write {S : Dk} {b : Nat} {rsb : List (List UInt8)} (h : Tail S b rsb) (x : List UInt8) (hx : x.length = 64) {p : Nat} (hp : p = b + S.waits.length) (hl : b + S.waits.length < S.n) : Tail (S.write p x) b rsb := by
  subst hp
  refine ⟨?_, h.len, ?_, h.eq, h.sure, ?_⟩
  · simp only [Dk.write, List.length_append, List.length_singleton]; omega
  · show (splice S.seen _ _).length = _
    rw [splice_length _ _ _ (by rw [h.seenl]; omega)]; exact h.seenl
  · intro i y hy
    have hy' : (S.waits ++ [(b + S.waits.length, x)])[i]? = some y := hy
    by_cases e : i < S.waits.length
    · rw [List.getElem?_append_left e] at hy'
      obtain ⟨h1, h2, h3⟩ := h.ws i y hy'
      refine ⟨h1, h2, ?_⟩
      show sector (splice S.seen _ _) _ = _
      rw [sector_splice_other h.seenl _ (by omega) hl (by omega)]; exact h3
    · have hi : i = S.waits.length := by
        have := (List.getElem?_eq_some_iff.1 hy').1
        simp only [List.length_append, List.length_singleton] at this; omega
      subst hi
      rw [List.getElem?_append_right (Nat.le_refl _)] at hy'
      simp at hy'
      subst hy'
      refine ⟨rfl, hx, ?_⟩
      show sector (splice S.seen _ _) _ = _
      have := sector_splice_same h.seenl x (by omega) hl
      rw [List.take_of_length_le (by rw [sector_length (by rw [splice_length _ _ _ (by rw [h.seenl]; omega)]; exact h.seenl) hl]; omega)] at this
      exact this
theorem Tail.adds {S : Dk} {b : Nat} {rsb : List (List UInt8)} (h : Tail S b rsb) (at_ : Nat) (ha : at_ = b + S.waits.length) (f : List UInt8) : ∀ k, at_ + k ≤ S.n → k * 64 ≤ f.length → Tail (addTo S at_ f k) b rsb ∧ (addTo S at_ f k).waits.length = S.waits.length + k ∧ (addTo S at_ f k).n = S.n
  | 0, _, _ => ⟨h, rfl, rfl⟩
  | k + 1, h1, h2 => by
    obtain ⟨t1, t2, t3⟩ := Tail.adds h at_ ha f k (by omega) (by omega)
    refine ⟨?_, ?_, t3⟩
    · exact t1.write _ (by rw [List.length_take, List.length_drop]; omega) (by omega) (by omega)
    · show ((addTo S at_ f k).waits ++ [_]).length = _
      rw [List.length_append, t2]; rfl
theorem Tail.sync {S : Dk} {at_ : Nat} {rs : List (List UInt8)} (h : Holds S at_ rs) : Tail S.sync at_ rs :=
  ⟨by have := h.le; simpa [Dk.sync] using this, h.ok.seen, h.ok.seen, h.eq, h.seen, fun i x hx => by simp [Dk.sync] at hx⟩

theorem take_of_sectors {X Y : List UInt8} {b : Nat} (h : ∀ s, s < b → sector X s = sector Y s) : X.take (b * 64) = Y.take (b * 64) := by
  apply List.ext_getElem?
  intro i
  rw [List.getElem?_take, List.getElem?_take]
  by_cases hi : i < b * 64
  · have h1 := congrArg (fun l => l[i % 64]?) (h (i / 64) (by omega))
    simp only [sector_get, if_pos (Nat.mod_lt i (show 64 > 0 by omega))] at h1
    rw [if_pos hi, if_pos hi]
    rwa [show i / 64 * 64 + i % 64 = i from by omega] at h1
  · rw [if_neg hi, if_neg hi]
theorem sector_zeros (n s : Nat) (h : s < n) : sector (zeros (n * 64)) s = zeros 64 := by
  simp only [sector, zeros, List.drop_replicate, List.take_replicate]; congr 1; omega
theorem sector_behind (a z : List UInt8) (b s : Nat) (h : a.length = b * 64) : sector (a ++ z) (b + s) = sector z s := by
  unfold sector; rw [show (b + s) * 64 = a.length + s * 64 by omega, ← List.drop_drop, List.drop_left]

theorem sure_law {S : Dk} {at_ b kk : Nat} {ls : List (List UInt8)} (h : Holds S at_ ls) (t : Tail S b (ls.take kk)) (hat : b + S.waits.length = at_) (keep : Nat) (torn : Int) :
    ∃ p2, parse (S.fail keep torn).seen = pairs (ls.take kk ++ p2) ∧ p2.length ≤ (ls.drop kk).length ∧ secsAll p2 ≤ secsAll (ls.drop kk) := by
  obtain ⟨X, hX⟩ : ∃ X, X = keepTo keep torn S.waits S.sure S.waits.length := ⟨_, rfl⟩
  obtain ⟨k1, k2, k3⟩ := keep_sectors keep torn S.waits S.sure t.len (fun i x hx => ⟨(t.ws i x hx).1, (t.ws i x hx).2.1⟩) t.le S.waits.length (Nat.le_refl _)
  rw [← hX] at k1 k2 k3
  have hcl : (cat (ls.take kk)).length = b * 64 := by rw [cat_length, t.eq]
  have hbn : b ≤ S.n := by have := t.le; omega
  have hpre : X.take (b * 64) = cat (ls.take kk) := by
    rw [take_of_sectors (Y := S.sure) (fun s hs => k2 s (.inl hs)), t.sure, ← hcl, List.take_left]
  have hXe : X = cat (ls.take kk) ++ X.drop (b * 64) := by rw [← hpre, List.take_append_drop]
  have hfk : fit (ls.take kk) := fun r hr => h.fit r (List.mem_of_mem_take hr)
  obtain ⟨p2, f2, e2, _, _⟩ := parse_back (X.drop (b * 64))
  refine ⟨p2, ?_, ?_⟩
  · show parse (keepTo _ _ _ _ _) = _
    rw [← hX, hXe, parse_cat _ hfk, e2]; simp [pairs]
  · have hseen : S.seen = cat (ls.take kk) ++ (cat (ls.drop kk) ++ zeros ((S.n - at_) * 64)) := by
      rw [h.seen, ← List.append_assoc, ← cat_append, List.take_append_drop]
    have hsplit : secsAll ls = b + secsAll (ls.drop kk) := by
      conv => lhs; rw [← List.take_append_drop kk ls]
      rw [secsAll_append, t.eq]
    have hle := h.le
    have heq := h.eq
    have hXl : (X.drop (b * 64)).length = secsAll (ls.drop kk) * 64 + (S.n - at_) * 64 := by rw [List.length_drop, k1]; omega
    have := parse_torn (ls.drop kk) (X.drop (b * 64)) (S.n - at_) (fun r hr => h.fit r (List.mem_of_mem_drop hr)) (fun s hs => ?_) hXl
    · rw [e2, used_pairs e2] at this; simpa [pairs] using this
    · have hsn : s < S.n - b := by rw [hXl] at hs; omega
      have e1 : sector (X.drop (b * 64)) s = sector X (b + s) := by
        rw [hXe, sector_behind _ _ _ _ hcl, ← hXe]
      have e3 : sector (cat (ls.drop kk) ++ zeros ((S.n - at_) * 64)) s = sector S.seen (b + s) := by
        rw [hseen, sector_behind _ _ _ _ hcl]
      have e4 : sector S.sure (b + s) = zeros 64 := by rw [t.sure, sector_behind _ _ _ _ hcl, sector_zeros _ _ hsn]
      rw [e1, e3]
      by_cases hs2 : s < S.waits.length
      · have hx := List.getElem?_eq_getElem hs2
        rcases k3 s _ hs2 hx with h3 | h3
        · left; rw [h3, (t.ws s _ hx).2.2]
        · right; rw [h3, e4]; simp [zeros]
      · right; rw [k2 (b + s) (.inr (by omega)), e4]; simp [zeros]
end Go.Proofs.Ytanlgidliflepaa
