/- Plain law: what a failure leaves. Conditions: none. -/
import Derived.Test.YtanlgidliflepaaPlain2
namespace Go.Proofs.Ytanlgidliflepaa

/-- What is seen is what is sure, with all writes that wait. -/
def Coh (S : Dk) : Prop := S.seen = S.waits.foldl (fun s x => splice s (x.1 * 64) x.2) S.sure
theorem Coh.sync (S : Dk) : Coh S.sync := rfl
theorem Coh.write {S : Dk} (h : Coh S) (p : Nat) (x : List UInt8) : Coh (S.write p x) := by
  show splice S.seen _ _ = List.foldl _ _ (S.waits ++ [(p, x)])
  rw [List.foldl_append, h]; rfl
theorem Coh.addTo {S : Dk} (h : Coh S) (at_ : Nat) (f : List UInt8) : ∀ k, Coh (addTo S at_ f k)
  | 0 => h
  | k + 1 => (Coh.addTo h at_ f k).write _ _
theorem keep_bit (i : Nat) (h : i < 64) : (18446744073709551615 : Nat) / 2 ^ i % 2 = 1 := by
  have : ∀ i : Fin 64, (18446744073709551615 : Nat) / 2 ^ i.val % 2 = 1 := by decide +kernel
  exact this ⟨i, h⟩
theorem keepTo_all (ws : List (Nat × List UInt8)) (sure : List UInt8) (hw : ∀ x ∈ ws, x.2.length = 64) : ∀ k, k ≤ ws.length → k ≤ 64 → keepTo 18446744073709551615 (-1) ws sure k = (ws.take k).foldl (fun s x => splice s (x.1 * 64) x.2) sure
  | 0, _, _ => rfl
  | k + 1, h1, h2 => by
    have ih := keepTo_all ws sure hw k (by omega) (by omega)
    have hx := List.getElem?_eq_getElem (show k < ws.length from h1)
    rw [keepTo, hx, List.take_succ_eq_append_getElem (show k < ws.length from h1), List.foldl_append, ← ih]
    show keepOne _ _ k _ _ = splice _ _ _
    rw [keepOne, if_neg (by rw [Nat.min_eq_left (by omega), keep_bit k (by omega)]; omega), if_neg (by omega), List.take_of_length_le (by rw [hw _ (List.getElem_mem _)]; omega)]
theorem fail_all {S : Dk} (h : S.ok) (hc : Coh S) (hl : S.waits.length ≤ 64) : (S.fail 18446744073709551615 (-1)).seen = S.seen := by
  show keepTo _ _ _ _ _ = _
  rw [keepTo_all _ _ (fun x hx => (h.waits x hx).2) _ (Nat.le_refl _) hl, List.take_length, hc]

theorem sector_length {L : List UInt8} {n s : Nat} (h : L.length = n * 64) (hs : s < n) : (sector L s).length = 64 := by
  rw [sector, List.length_take, List.length_drop]; omega
theorem sector_get (L : List UInt8) (s j : Nat) : (sector L s)[j]? = if j < 64 then L[s * 64 + j]? else none := by
  unfold sector; rw [List.getElem?_take]; split <;> simp
theorem sector_splice_other {L : List UInt8} {n s t : Nat} (hl : L.length = n * 64) (p : List UInt8) (hp : p.length ≤ 64) (ht : t < n) (hst : s ≠ t) : sector (splice L (t * 64) p) s = sector L s := by
  apply List.ext_getElem?
  intro j
  rw [sector_get, sector_get]
  by_cases hj : j < 64
  · simp only [hj, if_true]
    rw [splice_get _ _ _ (by omega)]
    by_cases h1 : s * 64 + j < t * 64
    · simp [h1]
    · have : t < s := by omega
      rw [if_neg h1, if_neg (by omega)]
  · simp [hj]
theorem sector_splice_same {L : List UInt8} {n t : Nat} (hl : L.length = n * 64) (p : List UInt8) (hp : p.length ≤ 64) (ht : t < n) : (sector (splice L (t * 64) p) t).take p.length = p := by
  apply List.ext_getElem?
  intro j
  rw [List.getElem?_take, sector_get]
  by_cases hj : j < p.length
  · rw [if_pos hj, if_pos (by omega), splice_get _ _ _ (by omega), if_neg (by omega), if_pos (by omega)]; congr 1; omega
  · rw [if_neg hj, List.getElem?_eq_none (by omega)]

/-- k of the writes to the sectors b, b + 1, .. kept or not, one torn. -/
theorem keep_sectors {n b : Nat} (keep : Nat) (torn : Int) (ws : List (Nat × List UInt8)) (sure : List UInt8) (hs : sure.length = n * 64) (hw : ∀ i x, ws[i]? = some x → x.1 = b + i ∧ x.2.length = 64) (hb : b + ws.length ≤ n) :
    ∀ k, k ≤ ws.length → (keepTo keep torn ws sure k).length = n * 64 ∧ (∀ s, s < b ∨ b + k ≤ s → sector (keepTo keep torn ws sure k) s = sector sure s) ∧
      ∀ i x, i < k → ws[i]? = some x → (sector (keepTo keep torn ws sure k) (b + i)).take 32 = x.2.take 32 ∨ sector (keepTo keep torn ws sure k) (b + i) = sector sure (b + i)
  | 0, _ => ⟨hs, fun _ _ => rfl, fun _ _ h => absurd h (by omega)⟩
  | k + 1, hk => by
    obtain ⟨h1, h2, h3⟩ := keep_sectors keep torn ws sure hs hw hb k (by omega)
    have hx := List.getElem?_eq_getElem (show k < ws.length from hk)
    obtain ⟨x, hxe⟩ : ∃ x, x = ws[k] := ⟨_, rfl⟩
    rw [← hxe] at hx
    obtain ⟨hx1, hx2⟩ := hw k x hx
    have hstep : keepTo keep torn ws sure (k + 1) = keepOne keep torn k x (keepTo keep torn ws sure k) := by rw [keepTo, hx]
    rw [hstep, keepOne]
    split
    · refine ⟨h1, fun s hs' => h2 s (by omega), fun i y hi hy => ?_⟩
      by_cases e : i = k
      · subst e; exact .inr (h2 _ (by omega))
      · exact h3 i y (by omega) hy
    · obtain ⟨q, hq⟩ : ∃ q, q = (if (k : Int) = torn then 32 else 64) := ⟨_, rfl⟩
      have hq2 : 32 ≤ q ∧ q ≤ 64 := by rw [hq]; split <;> omega
      rw [← hq]
      have hpl : (x.2.take q).length = q := by rw [List.length_take]; omega
      refine ⟨by rw [splice_length _ _ _ (by omega)]; exact h1, fun s hs' => ?_, fun i y hi hy => ?_⟩
      · rw [sector_splice_other h1 _ (by omega) (by omega) (by omega)]; exact h2 s (by omega)
      · by_cases e : i = k
        · subst e
          rw [hx] at hy; cases hy
          left
          have := sector_splice_same h1 (x.2.take q) (by omega) (show x.1 < n by omega)
          rw [hpl, hx1] at this
          have h32 := congrArg (List.take 32) this
          rw [List.take_take, List.take_take, Nat.min_eq_left hq2.1] at h32
          rw [hx1]; exact h32
        · rw [sector_splice_other h1 _ (by omega) (by omega) (by omega)]; exact h3 i y (by omega) hy

theorem ar1 (k s L : Nat) (h : k * 64 ≤ L) (h2 : (s + 1) * 64 ≤ L - k * 64) : (k + s + 1) * 64 ≤ L := by
  rw [show k + s + 1 = (s + 1) + k by rw [Nat.add_comm k s, Nat.add_right_comm], Nat.add_mul]; exact (Nat.le_sub_iff_add_le h).1 h2
theorem ar2 (a b m : Nat) : (a + b) * 64 + m * 64 - a * 64 = b * 64 + m * 64 := by rw [Nat.add_mul, Nat.add_assoc, Nat.add_sub_cancel_left]
set_option maxHeartbeats 2000000 in
/-- Of each sector the first half is as it was, or nought: then there are no more records than there were, and they take no more sectors. -/
theorem parse_torn : ∀ (rs : List (List UInt8)) (l' : List UInt8) (m : Nat), fit rs → (∀ s, (s + 1) * 64 ≤ l'.length → (sector l' s).take 32 = (sector (cat rs ++ zeros (m * 64)) s).take 32 ∨ (sector l' s).take 32 = zeros 32) → l'.length = secsAll rs * 64 + m * 64 → (parse l').length ≤ rs.length ∧ used l' ≤ secsAll rs := by
  intro rs
  induction rs with
  | nil =>
    intro l' m hf hs hl
    cases h : getF l' with
    | none => unfold used; rw [parse_end h]; simp
    | some x =>
      obtain ⟨r, k⟩ := x
      obtain ⟨h1, h2, _⟩ := getF_some h
      exfalso
      apply getF_head h
      have h0 := hs 0 (by omega)
      have hm : 1 ≤ m := by simp [secsAll] at hl; omega
      have hz : (sector (cat [] ++ zeros (m * 64)) 0).take 32 = zeros 32 := by
        simp only [cat, List.flatMap_nil, List.nil_append, sector, Nat.zero_mul, List.drop_zero, zeros, List.take_replicate]; congr 1; omega
      rw [hz] at h0
      have h0' : (sector l' 0).take 32 = zeros 32 := h0.elim id id
      have h8 := congrArg (List.take 8) h0'
      rw [List.take_take, sector, List.take_take] at h8
      simpa [zeros] using h8
  | cons r rs ih =>
    intro l' m hf hs hl
    have hfl := frame_length r
    have hc : cat (r :: rs) = frame r ++ cat rs := by simp [cat]
    have hsa : secsAll (r :: rs) = secs r.length + secsAll rs := by simp [secsAll]
    have hsp := secs_pos r.length
    cases h : getF l' with
    | none => unfold used; rw [parse_end h]; simp
    | some x =>
      obtain ⟨r', k⟩ := x
      obtain ⟨h1, h2, h3, h4, h5⟩ := getF_some h
      have h0 := hs 0 (by omega)
      have h0' : (sector l' 0).take 32 = (sector (cat (r :: rs) ++ zeros (m * 64)) 0).take 32 := by
        rcases h0 with h0 | h0
        · exact h0
        · exfalso
          apply getF_head h
          have h8 := congrArg (List.take 8) h0
          rw [List.take_take, sector, List.take_take] at h8
          simpa [zeros] using h8
      have h4' := congrArg (List.take 4) h0'
      rw [List.take_take, List.take_take, sector, sector, List.take_take, List.take_take] at h4'
      simp only [Nat.zero_mul, List.drop_zero] at h4'
      rw [show min (min 4 32) 64 = 4 from rfl, hc, List.append_assoc, frame_take4] at h4'
      have hr' : be4 r'.length = be4 r.length := by
        rw [← h4', ← frame_take4 r' [], List.append_nil, h3, List.take_take]; congr 1; omega
      have hn := congrArg numK hr'
      rw [numK_be4 _ (by omega), numK_be4 _ (by have := hf r (by simp); omega)] at hn
      have hk : k = secs r.length := by rw [h5, hn]
      have hu : used l' = k + used (l'.drop (k * 64)) := by unfold used; rw [parse_step h]; simp
      have hih := ih (l'.drop (k * 64)) m (fun x hx => hf x (by simp [hx])) ?_ ?_
      · refine ⟨?_, by rw [hu, hsa, ← hk]; exact Nat.add_le_add_left hih.2 _⟩
        rw [parse_step h, List.length_cons, List.length_cons]
        exact Nat.succ_le_succ hih.1
      · intro s hs'
        rw [List.length_drop] at hs'
        have hg := hs (k + s) (ar1 k s _ h2 hs')
        have e1 : sector (l'.drop (k * 64)) s = sector l' (k + s) := by
          unfold sector; rw [List.drop_drop]; congr 2; omega
        have e2 : sector (cat rs ++ zeros (m * 64)) s = sector (cat (r :: rs) ++ zeros (m * 64)) (k + s) := by
          unfold sector; rw [hc, List.append_assoc, show (k + s) * 64 = (frame r).length + s * 64 by rw [hfl, hk]; omega, ← List.drop_drop, List.drop_left]
        rw [e1, e2]; exact hg
      · rw [List.length_drop, hl, hsa, hk]; exact ar2 _ _ _
end Go.Proofs.Ytanlgidliflepaa
