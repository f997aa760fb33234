/- The reference's Put (concordatref05): its answer is 'frame' too. Conditions: lengths that memory bears. -/
import Derived.Test.YtanlgidliflepaaDoorRefSum
import Derived.Test.YtanlgidliflepaaDoorFrPut
import Derived.Laws.AppendOwnNone
namespace Go.Proofs.YtanlgidliflepaaDoor
open Go.RowKit

/-- append of bytes, from whatever slice. -/
theorem wpList_append_bytes {ops : Array Oper} {rest : List Oper} {o : Oper} {a : Act} {w : World} {Q : Exit → Act → World → Prop} (hgd : o.guard = none) (s x : Operand)
    (ho : o.op = .call { callee := .builtin .append, args := #[s, x], argTypes := #[22, 22] })
    (B : Nat) (v : Value) (n : Nat) (xs : List UInt8) (hs : a.eval s = v) (hown : w.ownsRow B 5 1 v n (bvals xs))
    (sp : Option Addr) (l : List UInt8) (m c : Nat) (hm : m = l.length) (hx : a.eval x = .slice sp m c) (hsp : sp = none → c = 0) (hb : IsB w sp l) (hn : n + l.length ≤ 1000000000) (hB : B ≤ w.heap.size)
    (h : ∀ v' w', w'.ownsRow B 5 1 v' (n + l.length) (bvals (xs ++ l)) → w.grownBy w' v.ownBlock → wpList Tryd.prog ops Q rest (a.put o.dst v') w') : wpList Tryd.prog ops Q (o :: rest) a w := by
  subst hm
  obtain ⟨i0, hi, hz0, hz1, hz2⟩ := info_parts info_u8
  cases sp with
  | none =>
    obtain rfl : l = [] := by rcases hb with h | ⟨_, _, h, _⟩; exact h; cases h
    obtain rfl := hsp rfl
    refine wpList_append_own_none hgd s x 22 ho B 5 i0 1 Tryd.underlying22 hi v n (bvals xs) hs hown hx ?_
    exact h v w (by rw [List.append_nil]; exact hown) (World.grownBy.refl w _)
  | some ad =>
    refine wpList_append_own w hgd s x 22 ho B 5 i0 (.int .u8 0) 1 1 Tryd.underlying22 hi hz0 hz1 hz2 rfl (by decide) v n (bvals xs) hs hown ad l.length c (bvals l) hx (by rw [bvals_length, Nat.mul_one]) hb.src (bvals_one l) (by simp only [maxLen]; omega) (by omega) hB ?_
    intro v' w' h1 h2 _
    exact h v' w' (by rw [bvals_append]; exact h1) h2

theorem number_any (n : Nat) (hn : n < 4294967296) (w : World) : Calls Tryd.prog 18 #[.int .u32 (n : Nat)] w fun e w' => e = .returned (.slice (some ⟨w.heap.size, 0, none⟩) 4 4) ∧ w' = w.alloc (.cells (bvals (be4 n)).toArray 5) := by
  have e : (bvals (be4 n)).toArray = #[.int .u8 ((n : Int) / 16777216), .int .u8 ((n : Int) / 65536 % 256), .int .u8 ((n : Int) / 256 % 256), .int .u8 ((n : Int) % 256)] := by
    simp [bvals, be4]; omega
  rw [e]
  go_enter Tryd.func18, Tryd.ntmps18
  go_wp2
  go_ret
  exact ⟨rfl, rfl⟩

theorem refPut_long (a : Option Addr) (len cap : Nat) (w : World) (h : 16384 < len) (h2 : len ≤ 9223372036854775807) : Calls Tryd.prog 7 #[.slice a len cap] w fun e w' => e = .returned (.tuple #[.slice none 0 0, .int .i64 3]) ∧ w = w' := by
  go_enter Tryd.func7, Tryd.ntmps7
  go_wp2
  go_ret2
  exact ⟨rfl, rfl⟩

theorem isB_cells {w : World} {b : Nat} {l : List UInt8} {t : TypeId} {fr : Nat × Nat} (h : w.heap[b]? = some (.cells (bvals l).toArray t fr)) : IsB w (some ⟨b, 0, none⟩) l :=
  IsB.of_blk h l fun j hj => by rw [Nat.zero_add, List.getElem?_toArray, bvals_get]; simp [hj]
theorem isB_row2 {w : World} {base t n c : Nat} {a : Option Addr} {l : List UInt8} (h : w.ownsRow base t 1 (.slice a n c) n (bvals l)) : IsB w a l := by
  rcases h.2 with ⟨e, h0⟩ | ⟨g, cap, cur, e, _, hg, _, _, _, ht⟩
  · cases e
    left
    have := h.1
    rw [bvals_length] at this
    exact List.eq_nil_of_length_eq_zero (by omega)
  · cases e
    refine IsB.of_blk hg l (fun j hj => ?_)
    have e1 : (bvals l)[j]? = some (.int .u8 (l[j].toNat : Int)) := by rw [bvals_get, List.getElem?_eq_getElem hj]; rfl
    rw [← ht, List.getElem?_take] at e1
    split at e1
    · rw [Nat.zero_add]; simpa using e1
    · cases e1
theorem row_base' {w : World} {base base' e size n : Nat} {v : Value} {xs : List Value} (h : w.ownsRow base e size v n xs) (hb : base' ≤ base) : w.ownsRow base' e size v n xs := by
  refine ⟨h.1, ?_⟩
  rcases h.2 with h | ⟨g, cap, cur, rfl, hbg, rest⟩
  · exact .inl h
  · exact .inr ⟨g, cap, cur, rfl, Nat.le_trans hb hbg, rest⟩
def lenV2 : Value → Nat
  | .slice _ n _ => n
  | _ => 0
theorem frame_split (r : List UInt8) (k : Nat) (hk : k = 8 + r.length) : frame r = (be4 r.length ++ (be4 (crc (crc 0 (be4 r.length)) r) ++ r)) ++ zeros (secs r.length * 64 - k) := by
  subst hk
  unfold frame
  rw [Nat.sub_sub]
  simp only [List.append_assoc]
theorem crc_append (s : Nat) (hs : s < 4294967296) (a b : List UInt8) : crc s (a ++ b) = crc (crc s a) b := by
  unfold crc crcN
  rw [List.foldl_append]
  have h : crcN (4294967295 - s) a < 4294967296 := crcN_lt (by omega) a
  unfold crcN at h
  congr 2
  omega

set_option maxRecDepth 20000 in
set_option maxHeartbeats 1000000 in
theorem refPut_any (a : Option Addr) (l : List UInt8) (cap : Nat) (w : World) (hl : l.length ≤ 16384) (hb : IsB w a l) (hn : a = none → cap = 0) :
    Calls Tryd.prog 7 #[.slice a l.length cap] w fun e w' => ∃ v, e = .returned (.tuple #[v, .int .i64 0]) ∧ w'.ownsRow w.heap.size 5 1 v (secs l.length * 64) (bvals (frame l)) ∧ Fr noBlk w w' := by
  have hl2 : (l.length : Int) < 4294967296 := by omega
  have d16 : decide ((16384 : Int) < (l.length : Int)) = false := decide_eq_false (by omega)
  obtain ⟨B, hB⟩ : ∃ x, w.heap.size = x := ⟨_, rfl⟩
  have HB := Lib.hid hB
  have HN := Lib.hid (number_any l.length (by omega) w)
  have hf1 := Fr.alloc w (.cells (bvals (be4 l.length)).toArray 5)
  have hn1 := heap_alloc_new w (.cells (bvals (be4 l.length)).toArray 5)
  rw [hB] at HN hn1 ⊢
  obtain ⟨w1, hw1⟩ : ∃ x, w.alloc (.cells (bvals (be4 l.length)).toArray 5) = x := ⟨_, rfl⟩
  rw [hw1] at HN hf1 hn1
  have HW1 := Lib.hid hw1
  have HNN := Lib.hid hn
  clear hw1 hB hn
  go_enter Tryd.func7, Tryd.ntmps7
  have hB1 : IsB w1 (some ⟨B, 0, none⟩) (be4 l.length) := isB_cells hn1
  have hsz1 : w1.heap.size = B + 1 := by rw [← HW1.out]; simp [HB.out]
  obtain ⟨B1, hB1e⟩ : ∃ x, w1.heap.size = x := ⟨_, rfl⟩
  have hle1 : B1 ≤ w1.heap.size := by omega
  have hBB : B1 = B + 1 := by omega
  have HBB := Lib.hid hBB
  have HLE := Lib.hid hle1
  have hbw : ∀ wr, Fr (fun j => B1 ≤ j) w1 wr → IsB wr a l := fun wr hf => by
    by_cases h0 : l = []
    · exact .inl h0
    · obtain ⟨b, off, rfl, h⟩ := hb.resolve_left h0
      have hlt := World.block_lt_of_cell? w ⟨b, off + 0, none⟩ (h 0 (List.length_pos_iff.2 h0))
      simp only at hlt
      exact (hb.fr hf1 (fun _ _ => not_noBlk _)).fr hf (fun x hx => by cases hx; have := HB.out; simp only; omega)
  clear hn1 hsz1 hB1e hBB hle1
  go_wp2_with (first | (go_at_call 18; refine HN.out.mono ?_; rintro e w' ⟨rfl, hw⟩; have hw' := hw.symm; subst hw') | (at_builtin; refine wpList_append_bytes rfl (.const (.slice none 0 0)) (.tmp 14) rfl B1 _ 0 [] rfl (World.ownsRow_nil _ _ _ _) (some ⟨B, 0, none⟩) (be4 l.length) 4 4 rfl rfl (fun h => by cases h) hB1 (show 0 + 4 ≤ 1000000000 by omega) HLE.out ?_))
  intro v1 w2 ho1 hg1
  have hf2 : Fr (fun j => B1 ≤ j) w1 w2 := (Fr.grown hg1).mono (fun j h => by simp [Value.ownBlock] at h)
  have hs2 := Nat.le_trans HLE.out hf2.size
  have hl2' := hbw w2 hf2
  have ho1 : w2.ownsRow B1 5 1 v1 4 (bvals (be4 l.length)) := ho1
  clear hg1
  have HS2 := Lib.hid hs2
  clear hs2
  go_wp2_with (at_builtin; refine wpList_append_bytes rfl (.tmp 15) (.tmp 16) rfl B1 v1 4 (be4 l.length) rfl ho1 a l l.length cap rfl rfl HNN.out hl2' (by omega) HS2.out ?_)
  intro v2 w3 ho2 hg2
  have hf3 : Fr (fun j => B1 ≤ j) w1 w3 := hf2.trans (Fr.grown hg2) (fun j h => .inl (ho1.lt j h).1)
  have hs3 := Nat.le_trans HLE.out hf3.size
  have HS3 := Lib.hid hs3
  have hB3 : IsB w3 (some ⟨B, 0, none⟩) (be4 l.length) := hB1.fr hf3 (fun x hx => by cases hx; have := HBB.out; simp only; omega)
  clear hg2 hs3 ho1
  go_wp2_with (at_builtin; refine wpList_append_bytes rfl (.const (.slice none 0 0)) (.tmp 18) rfl B1 _ 0 [] rfl (World.ownsRow_nil _ _ _ _) (some ⟨B, 0, none⟩) (be4 l.length) 4 4 rfl rfl (fun h => by cases h) hB3 (show 0 + 4 ≤ 1000000000 by omega) HS3.out ?_)
  intro v3 w4 ho3 hg3
  obtain ⟨a2, c2, rfl, _⟩ := row_slice ho2
  have hf34 : Fr noBlk w3 w4 := (Fr.grown hg3).mono (fun j h => by simp [Value.ownBlock] at h)
  have hf4 : Fr (fun j => B1 ≤ j) w1 w4 := hf3.trans hf34 (fun _ h => h.elim)
  have ho2' := hf34.row ho2 (fun _ _ => not_noBlk _)
  have ho3 : w4.ownsRow B1 5 1 v3 4 (bvals (be4 l.length)) := ho3
  have hlen : (be4 l.length ++ l).length = 4 + l.length := by rw [List.length_append]; rfl
  have hOf := refOf_any a2 (be4 l.length ++ l) c2 w4 (by omega) (isB_row2 ho2')
  rw [hlen] at hOf
  have HOF := Lib.hid hOf
  obtain ⟨s, hs⟩ : ∃ s, crc 0 (be4 l.length ++ l) = s := ⟨_, rfl⟩
  have hslt : s < 4294967296 := by rw [← hs]; unfold crc; omega
  rw [hs] at HOF
  have HSS := Lib.hid hs
  have hN2 := number_any s hslt w4
  have hf5 := Fr.alloc w4 (.cells (bvals (be4 s)).toArray 5)
  have hn5 := heap_alloc_new w4 (.cells (bvals (be4 s)).toArray 5)
  obtain ⟨w5, hw5⟩ : ∃ x, w4.alloc (.cells (bvals (be4 s)).toArray 5) = x := ⟨_, rfl⟩
  rw [hw5] at hN2 hf5 hn5
  have HN2 := Lib.hid hN2
  have hB5 := isB_cells hn5
  have hf5' := hf4.trans hf5 (fun _ h => h.elim)
  have ho3' := hf5.row ho3 (fun _ _ => not_noBlk _)
  have HS5 := Lib.hid (Nat.le_trans HLE.out hf5'.size)
  clear hw5 hn5 hs hOf hN2 hlen ho3 ho2 ho2' hf34 hg3 hB3
  go_wp2_with (first | (go_at_call 19; refine HOF.out.mono ?_; rintro e w' ⟨rfl, hw⟩; obtain rfl := hw) | (go_at_call 18; refine HN2.out.mono ?_; rintro e w' ⟨rfl, hw⟩; have hw' := hw.symm; subst hw') | (at_builtin; refine wpList_append_bytes rfl (.tmp 19) (.tmp 22) rfl B1 v3 4 (be4 l.length) rfl ho3' (some ⟨w4.heap.size, 0, none⟩) (be4 s) 4 4 rfl rfl (fun h => by cases h) hB5 (show 4 + 4 ≤ 1000000000 by omega) HS5.out ?_))
  intro v4 w6 ho4 hg4
  have hf6 := hf5'.trans (Fr.grown hg4) (fun j h => .inl (ho3'.lt j h).1)
  have ho4 : w6.ownsRow B1 5 1 v4 8 (bvals (be4 l.length ++ be4 s)) := ho4
  have hl6 := hbw w6 hf6
  have HS6 := Lib.hid (Nat.le_trans HLE.out hf6.size)
  clear hg4 ho3' hf5' hf5 hB5 hf4 hf3 hf2 hl2'
  go_wp2_with (at_builtin; refine wpList_append_bytes rfl (.tmp 24) (.tmp 25) rfl B1 v4 8 (be4 l.length ++ be4 s) rfl ho4 a l l.length cap rfl rfl HNN.out hl6 (by omega) HS6.out ?_)
  intro v5 w7 ho5 hg5
  have hf7 := hf6.trans (Fr.grown hg5) (fun j h => .inl (ho4.lt j h).1)
  obtain ⟨X, hX⟩ : ∃ X, be4 l.length ++ (be4 s ++ l) = X := ⟨_, rfl⟩
  rw [hX] at ho5
  have HX := Lib.hid hX
  have hsg := secs_ge l.length
  obtain ⟨M, hM⟩ : ∃ M, secs l.length * 64 = M := ⟨_, rfl⟩
  rw [hM] at hsg
  have hM64 : M % 64 = 0 := by omega
  have HM := Lib.hid hM
  have HM64 := Lib.hid hM64
  clear hX hg5 ho4 hl6 hf6 hM hM64 hl2 hbw hB1
  go_wp2_with fail
  go_loopw [6] (fun v wr => ∃ k : Nat, 8 + l.length + k ≤ M ∧ wr.ownsRow B1 5 1 v (8 + l.length + k) (bvals (X ++ zeros k)) ∧ Fr (fun j => B1 ≤ j) w1 wr) (fun v _ => M - lenV2 v)
  case atStart => exact ⟨0, by omega, by simpa [zeros] using ho5, hf7⟩
  case round =>
    obtain ⟨k, hk, hown, hfr⟩ := hrel
    obtain ⟨N, hN⟩ : ∃ N, 8 + l.length + k = N := ⟨_, rfl⟩
    rw [hN] at hk hown
    obtain ⟨va, vc, rfl, _⟩ := row_slice hown
    have HN := Lib.hid hN
    clear hN
    by_cases hlt : N < M
    · have hne : N % 64 ≠ 0 := by have := HM64.out; have := HN.out; omega
      have hb1 : ((N : Int) % 64 != 0) = true := by rw [bne_iff_ne]; omega
      have hfa := Fr.alloc wr (.cells (bvals [0]).toArray 5)
      have hnew := heap_alloc_new wr (.cells (bvals [0]).toArray 5)
      have hBz := isB_cells hnew
      have hs := hfr.size
      have HSZ := Lib.hid (Nat.le_trans (Nat.le_trans HLE.out hs) hfa.size)
      have hownA := hfa.row hown (fun _ _ => not_noBlk _)
      have hFa := hfr.trans hfa (fun _ h => h.elim)
      clear hne hnew hs
      go_wp2_with (at_builtin; refine wpList_append_bytes rfl (.tmp 31) (.tmp 32) rfl B1 _ N (X ++ zeros k) rfl hownA (some ⟨wr.heap.size, 0, none⟩) [0] 1 1 rfl rfl (fun h => by cases h) hBz (by simp only [List.length_singleton]; omega) HSZ.out ?_)
      intro v' w2 ho hg
      have hF := hFa.trans (Fr.grown hg) (fun j h => .inl (hownA.lt j h).1)
      have ho' : w2.ownsRow B1 5 1 v' (8 + l.length + (k + 1)) (bvals (X ++ zeros (k + 1))) := by
        have e1 : 8 + l.length + (k + 1) = N + 1 := by have := HN.out; omega
        have e2 : X ++ zeros (k + 1) = X ++ (zeros k ++ [0]) := by congr 1; unfold zeros; exact List.replicate_succ'
        rw [e1, e2]; exact ho
      have HO := Lib.hid ho'
      have HFF := Lib.hid hF
      have hlen : lenV2 v' = N + 1 := by obtain ⟨_, _, rfl, _⟩ := row_slice ho; rfl
      have HLN := Lib.hid hlen
      clear ho ho' hg hF hlen hownA hown hFa hfa hBz
      go_wp2
      refine ⟨⟨k + 1, by have := HN.out; omega, HO.out, HFF.out⟩, ?_⟩
      rw [HLN.out]; simp only [lenV2]; omega
    · have hNM : N = M := by omega
      have hb1 : ((N : Int) % 64 != 0) = false := by rw [bne_eq_false_iff_eq]; have := HM64.out; omega
      have HNM := Lib.hid hNM
      clear hNM
      go_wp2
      go_ret2
      refine ⟨_, rfl, ?_, ?_⟩
      · have e : frame l = X ++ zeros k := by
          rw [frame_split l (8 + l.length) rfl, HM.out, ← HX.out, ← HSS.out, crc_append 0 (by omega)]
          congr 2
          have := HN.out; have := HNM.out; omega
        rw [HM.out, e, ← HNM.out]
        exact row_base' hown (by have := HBB.out; omega)
      · exact hf1.trans hfr (fun j h => .inr (by have := HBB.out; have := HB.out; omega))
end Go.Proofs.YtanlgidliflepaaDoor
