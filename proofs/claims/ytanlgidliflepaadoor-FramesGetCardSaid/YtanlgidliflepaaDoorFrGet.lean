/- frames.Get: its answer is 'getF'. Conditions: lengths that a Go slice has. -/
import Derived.Test.YtanlgidliflepaaDoorFrPut
import Derived.Test.YtanlgidliflepaaDoorEqB
namespace Go.Proofs.YtanlgidliflepaaDoor
open Go.RowKit

def numK (l : List UInt8) : Nat := l.foldl (fun n c => n * 256 + c.toNat) 0
def getF (l : List UInt8) : Option (List UInt8 × Nat) :=
  if l.length < 8 then none
  else if 16384 < numK (l.take 4) then none
  else if l.length < secs (numK (l.take 4)) * 64 then none
  else if frame ((l.drop 8).take (numK (l.take 4))) = l.take (secs (numK (l.take 4)) * 64) then some ((l.drop 8).take (numK (l.take 4)), secs (numK (l.take 4)))
  else none

theorem numK_snoc (l : List UInt8) (k : Nat) (h : k < l.length) : numK (l.take (k + 1)) = numK (l.take k) * 256 + l[k].toNat := by
  unfold numK; rw [List.take_succ_eq_append_getElem h, List.foldl_append]; rfl
theorem numK_lt (l : List UInt8) : ∀ k, numK (l.take k) < 256 ^ k
  | 0 => by simp [numK]
  | k + 1 => by
    have ih := numK_lt l k
    by_cases h : k < l.length
    · rw [numK_snoc l k h, Nat.pow_succ]
      have := l[k].toNat_lt
      omega
    · rw [List.take_of_length_le (by omega), Nat.pow_succ]
      rw [List.take_of_length_le (by omega)] at ih
      omega
theorem or_byte (n : Nat) (c : UInt8) (h : n < 16777216) : bits BinOp.or IntKind.u32 ((n : Int) * 256) (c.toNat : Int) = ((n * 256 + c.toNat : Nat) : Int) := by
  have hc := c.toNat_lt
  have e := u32_or_nat (n * 256) c.toNat (by omega) (by omega)
  rw [show n * 256 ||| c.toNat = n * 256 + c.toNat from by
    have := Nat.two_pow_add_eq_or_of_lt (i := 8) (b := c.toNat) (by omega) n
    rw [show n * 256 = 2 ^ 8 * n from by omega]; exact this.symm] at e
  rw [← e]; simp

theorem be4_length (n : Nat) : (be4 n).length = 4 := rfl
theorem frame_length (r : List UInt8) : (frame r).length = secs r.length * 64 := by
  have := secs_ge r.length
  simp only [frame, List.length_append, be4_length, zeros, List.length_replicate]; omega
theorem IsB.of_row {w : World} {base t n c : Nat} {a : Option Addr} {l : List UInt8} (h : w.ownsRow base t 1 (.slice a n c) n (bvals l)) : IsB w a l := by
  rcases h.2 with ⟨e, h0⟩ | ⟨g, cap, cur, e, _, hg, _, _, _, ht⟩
  · cases e
    left
    have := h.1
    rw [bvals_length] at this
    exact List.eq_nil_of_length_eq_zero (by omega)
  · cases e
    refine IsB.of_blk hg l (fun j hj => ?_)
    have e1 : (bvals l)[j]? = some (.int .u8 (l[j].toNat : Int)) := by rw [bvals_get, List.getElem?_eq_getElem hj]; rfl
    rw [← ht, List.getElem?_take] at e1
    split at e1
    · rw [Nat.zero_add]; simpa using e1
    · cases e1

theorem pow3 (k : Nat) (h : k ≤ 3) : 256 ^ k ≤ 16777216 := Nat.le_trans (Nat.pow_le_pow_right (by omega) h) (by simp)
/-- What Get tells of the bytes l. -/
def Got (w : World) (l : List UInt8) (e : Ending) (w' : World) : Prop :=
  Fr noBlk w w' ∧ ((getF l = none ∧ e = .returned (.tuple #[.slice none 0 0, .int .i64 0, .int .i64 4])) ∨
    ∃ r k v, getF l = some (r, k) ∧ e = .returned (.tuple #[v, .int .i64 (k : Int), .int .i64 0]) ∧ w'.ownsRow w.heap.size 5 1 v r.length (bvals r))

theorem IsB.sub {w : World} {b off : Nat} {l : List UInt8} (h : IsB w (some ⟨b, off, none⟩) l) (i m : Nat) : IsB w (some ⟨b, off + i, none⟩) ((l.drop i).take m) := by
  rcases h with rfl | ⟨b', o', e, h⟩
  · left; simp
  · cases e
    refine .inr ⟨b, off + i, rfl, fun j hj => ?_⟩
    rw [List.length_take, List.length_drop] at hj
    have := h (i + j) (by omega)
    rw [Nat.add_assoc, this]
    simp

set_option maxHeartbeats 1600000 in
set_option maxRecDepth 100000 in
theorem get_any (a : Option Addr) (l : List UInt8) (cap : Nat) (w : World) (hl : l.length ≤ 140737488355328) (hc : l.length ≤ cap) (hc2 : cap ≤ 9223372036854775807) (hb : IsB w a l) (hlt : ∀ x, a = some x → x.block < w.heap.size) :
    Calls Tryd.prog 12 #[.slice a l.length cap] w (Got w l) := by
  by_cases h8 : l.length < 8
  · have hg : getF l = none := by rw [getF, if_pos h8]
    have HG := Lib.hid hg
    clear hg
    go_enter Tryd.func12, Tryd.ntmps12
    go_wp2
    go_ret3
    exact ⟨Fr.refl _ _, .inl ⟨HG.out, rfl⟩⟩
  · obtain ⟨b, off, rfl, hcell⟩ : ∃ b off, a = some ⟨b, off, none⟩ ∧ ∀ j (h : j < l.length), w.cell? ⟨b, off + j, none⟩ = some (.int .u8 (l[j].toNat : Int)) := hb.resolve_left (by rintro rfl; simp at h8)
    have hblt : b < w.heap.size := hlt _ rfl
    clear hlt
    go_enter Tryd.func12, Tryd.ntmps12
    go_wp2
    go_loop [5, 7, 17] (fun n _ i => ∃ k : Nat, k ≤ 4 ∧ i = .int .i64 k ∧ n = .int .u32 (numK (l.take k) : Nat)) (fun _ _ i => 4 - (intOf i).toNat)
    case atStart => exact ⟨0, by omega, rfl, rfl⟩
    case round =>
      obtain ⟨k, hk, rfl, rfl⟩ := hrel
      by_cases hk4 : k < 4
      · have hc1 := hcell k (by omega)
        have hn : numK (l.take k) < 16777216 := Nat.lt_of_lt_of_le (numK_lt l k) (pow3 k (by omega))
        have hor := or_byte _ l[k] hn
        have hcb : (l[k].toNat : Int) < 256 := by have := l[k].toNat_lt; omega
        have HS := Lib.hid (numK_snoc l k (by omega))
        clear hcell hb
        go_wp2
        go_round
        case rel => exact ⟨k + 1, by omega, by go_num, by rw [HS.out]; go_num⟩
        case measure => simp [intOf]; omega
      · obtain rfl : k = 4 := by omega
        have hn4 : numK (l.take 4) < 4294967296 := numK_lt l 4
        by_cases h16 : 16384 < numK (l.take 4)
        · have HG := Lib.hid (show getF l = none by rw [getF, if_neg h8, if_pos h16])
          go_wp2
          go_ret3
          exact ⟨Fr.refl _ _, .inl ⟨HG.out, rfl⟩⟩
        · have HSEC := Lib.hid (secs_any (numK (l.take 4)) (by omega) w)
          have hsg := secs_ge (numK (l.take 4))
          by_cases hmany : l.length < secs (numK (l.take 4)) * 64
          · have HG := Lib.hid (show getF l = none by rw [getF, if_neg h8, if_neg h16, if_pos hmany])
            go_wp2_with (go_at_call 14; refine HSEC.out.mono ?_; rintro e w' ⟨rfl, rfl⟩)
            go_ret3
            exact ⟨Fr.refl _ _, .inl ⟨HG.out, rfl⟩⟩
          · have hGF : getF l = if frame ((l.drop 8).take (numK (l.take 4))) = l.take (secs (numK (l.take 4)) * 64) then some ((l.drop 8).take (numK (l.take 4)), secs (numK (l.take 4))) else none := by rw [getF, if_neg h8, if_neg h16, if_neg hmany]
            have HGF := Lib.hid hGF
            clear hGF
            obtain ⟨n, hn⟩ : ∃ n, numK (l.take 4) = n := ⟨_, rfl⟩
            rw [hn] at HGF hsg hmany h16 hn4 HSEC ⊢
            clear hn
            obtain ⟨r, hr⟩ : ∃ r, (l.drop 8).take n = r := ⟨_, rfl⟩
            have hrl : r.length = n := by rw [← hr, List.length_take, List.length_drop]; omega
            have hbr : IsB w (some ⟨b, off + 8, none⟩) r := by rw [← hr]; exact hb.sub 8 n
            have hbt : IsB w (some ⟨b, off, none⟩) (l.take (secs n * 64)) := by have := hb.sub 0 (secs n * 64); rwa [Nat.add_zero, List.drop_zero] at this
            rw [hr] at HGF
            have htl : (l.take (secs n * 64)).length = secs n * 64 := by rw [List.length_take]; omega
            generalize l.take (secs n * 64) = t at *
            clear hr hb hcell
            rcases Nat.eq_zero_or_pos n with hn0 | hpos
            · subst hn0
              have HC := Lib.hid (cloneB_any (some ⟨b, off, none⟩) r 0 w (by omega) (.inl (List.eq_nil_of_length_eq_zero hrl)))
              rw [hrl] at HC
              go_wp2_with (go_at_call 14; refine HSEC.out.mono ?_; rintro e w' ⟨rfl, rfl⟩)
              refine HC.out.mono ?_
              rintro e w1 ⟨v1, rfl, hown1, hfr1⟩
              obtain ⟨a1, c1, rfl, ha1⟩ := row_slice hown1
              have hB1 : IsB w1 a1 r := IsB.of_row hown1
              have hlt1 : ∀ x, a1 = some x → x.block < w1.heap.size := fun x hx => by
                rcases hown1.2 with ⟨e, _⟩ | ⟨g, cap', cur, e, _, hg, _⟩
                · cases e; cases hx
                · cases e; cases hx; exact blk_lt hg
              have HP := Lib.hid (put_any a1 r c1 w1 (by omega) hB1)
              rw [hrl] at HP
              clear hlt1
              go_wp2_with fail
              refine HP.out.mono ?_
              rintro e w2 ⟨g, rfl, hgge, hgB, hfr2⟩
              have hF2 := hfr1.trans hfr2 (fun _ h => h.elim)
              have hown2 := hfr2.row hown1 (fun _ _ => not_noBlk _)
              have hfl : (frame r).length = secs 0 * 64 := by rw [frame_length, hrl]
              have hBg : IsB w2 (some ⟨g, 0, none⟩) (frame r) := by
                refine IsB.of_blk hgB _ (fun j hj => ?_)
                rw [Nat.zero_add, List.getElem?_toArray, bvals_get, List.getElem?_eq_getElem hj]; rfl
              have hBt2 : IsB w2 (some ⟨b, off, none⟩) t := hbt.fr hF2 (fun _ _ => not_noBlk _)
              have HE := Lib.hid (eqB_any (some ⟨g, 0, none⟩) (some ⟨b, off, none⟩) (frame r) t (secs 0 * 64) cap w2 (by omega) (by omega) hBg hBt2)
              rw [hfl, htl] at HE
              go_wp2_with fail
              refine HE.out.mono ?_
              rintro e w3 ⟨rfl, hfr3⟩
              have hF3 := hF2.trans hfr3 (fun _ h => h.elim)
              have hown3 := hfr3.row hown2 (fun _ _ => not_noBlk _)
              by_cases hft : frame r = t
              · have HG := Lib.hid (show getF l = some (r, secs 0) by rw [HGF.out, if_pos hft])
                have hdec : decide (frame r = t) = true := decide_eq_true hft
                have HR := Lib.hid hrl
                clear hft HGF hrl hfl htl
                go_wp2
                go_ret3
                exact ⟨hF3, .inr ⟨r, secs 0, _, HG.out, rfl, by rw [HR.out]; exact hown3⟩⟩
              · have HG := Lib.hid (show getF l = none by rw [HGF.out, if_neg hft])
                have hdec : decide (frame r = t) = false := decide_eq_false hft
                clear hft HGF hrl hfl htl
                go_wp2
                go_ret3
                exact ⟨hF3, .inl ⟨HG.out, rfl⟩⟩
            · have HC := Lib.hid (cloneB_any (some ⟨b, off + 8, none⟩) r n w (by omega) hbr)
              rw [hrl] at HC
              go_wp2_with (go_at_call 14; refine HSEC.out.mono ?_; rintro e w' ⟨rfl, rfl⟩)
              refine HC.out.mono ?_
              rintro e w1 ⟨v1, rfl, hown1, hfr1⟩
              obtain ⟨a1, c1, rfl, ha1⟩ := row_slice hown1
              have hB1 : IsB w1 a1 r := IsB.of_row hown1
              have hlt1 : ∀ x, a1 = some x → x.block < w1.heap.size := fun x hx => by
                rcases hown1.2 with ⟨e, _⟩ | ⟨g, cap', cur, e, _, hg, _⟩
                · cases e; cases hx
                · cases e; cases hx; exact blk_lt hg
              have HP := Lib.hid (put_any a1 r c1 w1 (by omega) hB1)
              rw [hrl] at HP
              clear hlt1
              go_wp2_with fail
              refine HP.out.mono ?_
              rintro e w2 ⟨g, rfl, hgge, hgB, hfr2⟩
              have hF2 := hfr1.trans hfr2 (fun _ h => h.elim)
              have hown2 := hfr2.row hown1 (fun _ _ => not_noBlk _)
              have hfl : (frame r).length = secs n * 64 := by rw [frame_length, hrl]
              have hBg : IsB w2 (some ⟨g, 0, none⟩) (frame r) := by
                refine IsB.of_blk hgB _ (fun j hj => ?_)
                rw [Nat.zero_add, List.getElem?_toArray, bvals_get, List.getElem?_eq_getElem hj]; rfl
              have hBt2 : IsB w2 (some ⟨b, off, none⟩) t := hbt.fr hF2 (fun _ _ => not_noBlk _)
              have HE := Lib.hid (eqB_any (some ⟨g, 0, none⟩) (some ⟨b, off, none⟩) (frame r) t (secs n * 64) cap w2 (by omega) (by omega) hBg hBt2)
              rw [hfl, htl] at HE
              go_wp2_with fail
              refine HE.out.mono ?_
              rintro e w3 ⟨rfl, hfr3⟩
              have hF3 := hF2.trans hfr3 (fun _ h => h.elim)
              have hown3 := hfr3.row hown2 (fun _ _ => not_noBlk _)
              by_cases hft : frame r = t
              · have HG := Lib.hid (show getF l = some (r, secs n) by rw [HGF.out, if_pos hft])
                have hdec : decide (frame r = t) = true := decide_eq_true hft
                have HR := Lib.hid hrl
                clear hft HGF hrl hfl htl
                go_wp2
                go_ret3
                exact ⟨hF3, .inr ⟨r, secs n, _, HG.out, rfl, by rw [HR.out]; exact hown3⟩⟩
              · have HG := Lib.hid (show getF l = none by rw [HGF.out, if_neg hft])
                have hdec : decide (frame r = t) = false := decide_eq_false hft
                clear hft HGF hrl hfl htl
                go_wp2
                go_ret3
                exact ⟨hF3, .inl ⟨HG.out, rfl⟩⟩
end Go.Proofs.YtanlgidliflepaaDoor
