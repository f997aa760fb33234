/- walls.Log: there, left, Force, Add. Conditions: a log over a disk that is there. -/
import Derived.Test.YtanlgidliflepaaOpen
import Derived.Deep.RegionWith
namespace Go.Proofs.Ytanlgidliflepaa
open Go.RowKit

def IsLog (w : World) (L D at_ : Nat) : Prop := w.heap[L]? = some (.cells #[.pointer (some ⟨D, 0, none⟩), .int .i64 (at_ : Nat)] 28 (0, 0))

theorem there_any (L D at_ : Nat) (w : World) (h : IsLog w L D at_) : Calls Try.prog 17 #[.pointer (some ⟨L, 0, none⟩)] w fun e w' => e = .returned (.bool true) ∧ w = w' := by
  have h0 : w.cell? ⟨L, 0, none⟩ = some (.pointer (some ⟨D, 0, none⟩)) := blk_cell h 0 rfl
  go_enter Try.func17, Try.ntmps17
  go_wp2
  go_ret
  exact ⟨rfl, rfl⟩

theorem left_any (L D at_ : Nat) (S : Dk) (fp : Nat → Prop) (w : World) (h : IsLog w L D at_) (hd : IsDsk w D S fp) (ha : at_ ≤ S.n) :
    Calls Try.prog 19 #[.pointer (some ⟨L, 0, none⟩)] w fun e w' => e = .returned (.int .i64 ((S.n - at_ : Nat) : Int)) ∧ Fr noBlk w w' := by
  have h0 : w.drew.cell? ⟨L, 0, none⟩ = some (.pointer (some ⟨D, 0, none⟩)) := blk_cell h 0 rfl
  have h1 : w.drew.cell? ⟨L, 1, none⟩ = some (.int .i64 (at_ : Nat)) := blk_cell h 1 rfl
  have hok : S.ok := by obtain ⟨_, _, _, _, _, h⟩ := hd; exact h.ok
  have hm := hok.most
  have hw : IntKind.i64.wrap ((S.n : Int) - at_) = (S.n : Int) - at_ := IntWalk.i64_in _ (by omega)
  have HSZ := Lib.hid (size_any D S fp w.drew (hd.fr (Fr.drew _) (fun _ _ => not_noBlk _)))
  go_enter Try.func19, Try.ntmps19
  go_wp2_with fail
  go_region_with (go_at_call 22; refine HSZ.out.mono ?_; rintro e w' ⟨rfl, rfl⟩)
  all_goals go_wp2
  all_goals go_ret
  all_goals refine ⟨?_, Fr.drew _⟩
  all_goals (rw [show ((S.n - at_ : Nat) : Int) = (S.n : Int) - at_ from by omega]; first | rfl | (show Ending.returned (.int .i64 (IntKind.i64.wrap ((S.n : Int) - at_))) = _; rw [hw]))

theorem force_any (L D at_ : Nat) (S : Dk) (fp : Nat → Prop) (w : World) (h : IsLog w L D at_) (hd : IsDsk w D S fp) :
    Calls Try.prog 7 #[.pointer (some ⟨L, 0, none⟩)] w fun e w' => e = .returned (.int .i64 0) ∧ IsDsk w' D S.sync fp ∧ Fr fp w w' := by
  have h0 : w.cell? ⟨L, 0, none⟩ = some (.pointer (some ⟨D, 0, none⟩)) := blk_cell h 0 rfl
  have HT := Lib.hid (there_any L D at_ w h)
  have HSY := Lib.hid (sync_any D S fp w hd)
  go_enter Try.func7, Try.ntmps7
  go_wp2_with (first | (go_at_call 17; refine HT.out.mono ?_; rintro e w' ⟨rfl, rfl⟩) | (go_at_call 21; refine HSY.out.mono ?_; rintro e w6 ⟨rfl, hd6, hf6⟩))
  go_ret
  exact ⟨rfl, hd6, hf6⟩

/-- k sectors of f written from at on. -/
def addTo (S : Dk) (at_ : Nat) (f : List UInt8) : Nat → Dk
  | 0 => S
  | k + 1 => (addTo S at_ f k).write (at_ + k) ((f.drop (k * 64)).take 64)
def Dk.add (S : Dk) (at_ : Nat) (r : List UInt8) : Dk := addTo S at_ (frame r) (secs r.length)
theorem addTo_ok {S : Dk} (h : S.ok) (at_ : Nat) (f : List UInt8) : ∀ k, at_ + k ≤ S.n → k * 64 ≤ f.length → (addTo S at_ f k).ok ∧ (addTo S at_ f k).n = S.n ∧ (addTo S at_ f k).waits.length = S.waits.length + k
  | 0, _, _ => ⟨h, rfl, rfl⟩
  | k + 1, hk, hf => by
    obtain ⟨h1, h2, h3⟩ := addTo_ok h at_ f k (by omega) (by omega)
    rw [addTo]
    refine ⟨Dk.write_ok h1 _ _ (by omega) (by rw [List.length_take, List.length_drop]; omega), h2, ?_⟩
    simp only [Dk.write, List.length_append, List.length_singleton]; omega

def lenV : Value → Nat
  | .slice _ n _ => n
  | _ => 0

theorem add_long (L D at_ : Nat) (a : Option Addr) (n c : Nat) (w : World) (h : IsLog w L D at_) (hl : 16384 < n) (hl2 : n ≤ 9223372036854775807) :
    Calls Try.prog 6 #[.pointer (some ⟨L, 0, none⟩), .slice a n c] w fun e w' => e = .returned (.int .i64 3) ∧ w = w' := by
  have HT := Lib.hid (there_any L D at_ w h)
  go_enter Try.func6, Try.ntmps6
  go_wp2_with (first | (go_at_call 17; refine HT.out.mono ?_; rintro e w' ⟨rfl, rfl⟩) | (go_at_call 18; refine (put_long _ _ _ _ hl hl2).mono ?_; rintro e w6 ⟨rfl, rfl⟩))
  go_ret
  exact ⟨rfl, rfl⟩

set_option maxHeartbeats 1000000 in
theorem add_full (L D at_ : Nat) (S : Dk) (fp : Nat → Prop) (a : Option Addr) (l : List UInt8) (c : Nat) (w : World) (h : IsLog w L D at_) (hd : IsDsk w D S fp) (ha : at_ ≤ S.n) (hl : l.length ≤ 16384) (hb : IsB w a l)
    (hfull : S.n < at_ + secs l.length) :
    Calls Try.prog 6 #[.pointer (some ⟨L, 0, none⟩), .slice a l.length c] w fun e w' => e = .returned (.int .i64 5) ∧ Fr noBlk w w' := by
  have HT := Lib.hid (there_any L D at_ w h)
  have HP := Lib.hid (put_any a l c w hl hb)
  have hLd := Lib.hid (fun w1 (hf : Fr noBlk w w1) => left_any L D at_ S fp w1 (hf.blk h (not_noBlk _)) (hd.fr hf (fun _ _ => not_noBlk _)) ha)
  have hok : S.ok := by obtain ⟨_, _, _, _, _, h⟩ := hd; exact h.ok
  have hm := hok.most
  have hs := secs_ge l.length
  go_enter Try.func6, Try.ntmps6
  go_wp2_with (first | (go_at_call 17; refine HT.out.mono ?_; rintro e w' ⟨rfl, rfl⟩) | (go_at_call 18; refine HP.out.mono ?_; rintro e w6 ⟨g, rfl, hg, hgb, hf6⟩) | (go_at_call 19; refine (hLd.out _ hf6).mono ?_; rintro e w7 ⟨rfl, hf7⟩))
  go_ret
  exact ⟨rfl, hf6.trans hf7 (fun _ h => h.elim)⟩

set_option maxHeartbeats 1000000 in
theorem add_any (L D at_ : Nat) (S : Dk) (fp : Nat → Prop) (a : Option Addr) (l : List UInt8) (c : Nat) (w : World) (h : IsLog w L D at_) (hd : IsDsk w D S fp) (hL : ¬ fp L) (hl : l.length ≤ 16384) (hb : IsB w a l)
    (hfull : at_ + secs l.length ≤ S.n) (hwt : S.waits.length ≤ 900000000) :
    Calls Try.prog 6 #[.pointer (some ⟨L, 0, none⟩), .slice a l.length c] w fun e w' => e = .returned (.int .i64 0) ∧ ∃ fp', IsDsk w' D (S.add at_ l) fp' ∧ IsLog w' L D (at_ + secs l.length) ∧ Fr (fun k => fp k ∨ k = L) w w' ∧ ∀ k, fp' k → fp k ∨ w.heap.size ≤ k := by
  have hlt0 : ∀ k, fp k → k < w.heap.size := by obtain ⟨_, _, _, _, _, h⟩ := hd; exact h.lt
  have HT := Lib.hid (there_any L D at_ w h)
  have HP := Lib.hid (put_any a l c w hl hb)
  have hLd := Lib.hid (fun w1 (hf : Fr noBlk w w1) => left_any L D at_ S fp w1 (hf.blk h (not_noBlk _)) (hd.fr hf (fun _ _ => not_noBlk _)) (by omega))
  have hok : S.ok := by obtain ⟨_, _, _, _, _, h⟩ := hd; exact h.ok
  have hm := hok.most
  have hs := secs_ge l.length
  have hfl := frame_length l
  obtain ⟨m, hmm⟩ : ∃ m, secs l.length = m := ⟨_, rfl⟩
  have HADD := Lib.hid (show S.add at_ l = addTo S at_ (frame l) m by rw [Dk.add, hmm])
  obtain ⟨f, hfr⟩ : ∃ f, frame l = f := ⟨_, rfl⟩
  rw [hmm] at hs hfl hfull HP ⊢
  rw [hfr] at hfl HP HADD
  clear hmm hfr
  have hLlt := blk_lt h
  go_enter Try.func6, Try.ntmps6
  go_wp2_with (first | (go_at_call 17; refine HT.out.mono ?_; rintro e w' ⟨rfl, rfl⟩) | (go_at_call 18; refine HP.out.mono ?_; rintro e w6 ⟨g, rfl, hg, hgb, hf6⟩) | (go_at_call 19; refine (hLd.out _ hf6).mono ?_; rintro e w7 ⟨rfl, hf7⟩))
  have hf67 := hf6.trans hf7 (fun _ h => h.elim)
  have hgb7 := hf7.blk hgb (not_noBlk _)
  have hB7 : IsB w7 (some ⟨g, 0, none⟩) f := IsB.of_bvals hgb7
  have hd7 := hd.fr hf67 (fun _ _ => not_noBlk _)
  have h7 : IsLog w7 L D at_ := hf67.blk h (not_noBlk _)
  have hglt := blk_lt hgb7
  have hgL : g ≠ L := by omega
  have hgf : ¬ fp g := fun e => by have := hlt0 _ e; omega
  rw [show decide (S.n - at_ < m) = false from decide_eq_false (by omega)]
  go_loopw [5] (fun v wr => ∃ (k o : Nat) (fp' : Nat → Prop), k ≤ m ∧ v = .slice (some ⟨g, o, none⟩) ((m - k) * 64) ((m - k) * 64) ∧ (k < m → o = k * 64) ∧ IsDsk wr D (addTo S at_ f k) fp' ∧ IsLog wr L D (at_ + k) ∧ Fr (fun k => fp k ∨ k = L) w7 wr ∧ ∀ j, fp' j → fp j ∨ w7.heap.size ≤ j) (fun v _ => lenV v)
  case atStart => exact ⟨0, 0, fp, by omega, rfl, fun _ => by omega, hd7, h7, Fr.refl _ _, fun j h => .inl h⟩
  case round =>
    obtain ⟨k, o, fp', hk, rfl, ho, hdr, hlr, hfr, hfp'⟩ := hrel
    by_cases hlt : k < m
    · obtain rfl := ho hlt
      clear ho
      have hBr : IsB wr (some ⟨g, 0, none⟩) f := hB7.fr hfr (fun x hx => by cases hx; exact fun e => e.elim hgf hgL)
      have hch := hBr.sub (k * 64) 64
      rw [Nat.zero_add] at hch
      obtain ⟨hCok, hCn, hCw⟩ := addTo_ok hok at_ f k (by omega) (by omega)
      obtain ⟨C, hC⟩ : ∃ C, addTo S at_ f k = C := ⟨_, rfl⟩
      obtain ⟨X, hX⟩ : ∃ X, (f.drop (k * 64)).take 64 = X := ⟨_, rfl⟩
      have hXl : X.length = 64 := by rw [← hX, List.length_take, List.length_drop]; omega
      have HST := Lib.hid (show addTo S at_ f (k + 1) = C.write (at_ + k) X by rw [addTo, hC, hX])
      rw [hC] at hdr hCok hCn hCw
      rw [hX] at hch
      clear hC hX
      have hgr : g < wr.heap.size := Nat.lt_of_lt_of_le hglt hfr.size
      have HW := Lib.hid (write_at D C fp' (at_ + k) (some ⟨g, k * 64, none⟩) X X 64 ((m - k) * 64) wr.drew (hdr.fr (Fr.drew _) (fun _ _ => not_noBlk _)) (hch.fr (Fr.drew _) (fun _ _ => not_noBlk _)) (fun x hx => by cases hx; exact hgr) (by omega) (by omega) (by omega) hXl.symm (by simp [pad, hXl, zeros]) (atI := ((at_ + k : Nat) : Int)) rfl)
      have c0 : wr.drew.cell? ⟨L, 0, none⟩ = some (.pointer (some ⟨D, 0, none⟩)) := blk_cell hlr 0 rfl
      have c1 : wr.drew.cell? ⟨L, 1, none⟩ = some (.int .i64 ((at_ + k : Nat) : Int)) := blk_cell hlr 1 rfl
      go_wp2_with fail
      go_region_with (go_at_call 20; refine HW.out.mono ?_; rintro e w8 ⟨rfl, fp8, hd8, hf8, hs8⟩)
      all_goals
        have hLp : ¬ fp' L := fun e => (hfp' L e).elim hL (fun h => by have := hf67.size; omega)
        have hl8 : IsLog w8 L D (at_ + k) := hf8.blk hlr hLp
        have e1 : w8.cell? ⟨L, 1, none⟩ = some (.int .i64 ((at_ + k : Nat) : Int)) := blk_cell hl8 1 rfl
        have e2 := blk_free hl8 1
        have hset := blk_set hl8 1 (.int .i64 ((at_ + (k + 1) : Nat) : Int))
        have hfs := Fr.setCell w8 ⟨L, 1, none⟩ (.int .i64 ((at_ + (k + 1) : Nat) : Int))
        have hL8 : ¬ fp8 L := fun e => (hs8 L e).elim hLp (fun h => by have := blk_lt hlr; have h' : wr.heap.size ≤ L := h; omega)
        have hd9 : IsDsk (w8.setCell ⟨L, 1, none⟩ (.int .i64 ((at_ + (k + 1) : Nat) : Int))) D (addTo S at_ f (k + 1)) fp8 := by
          rw [HST.out]; exact hd8.fr hfs (fun j hj e => by have e' : j = L := e; subst e'; exact hL8 hj)
        have hff : Fr (fun k => fp k ∨ k = L) w7 (w8.setCell ⟨L, 1, none⟩ (.int .i64 ((at_ + (k + 1) : Nat) : Int))) := by
          have h1 : Fr fp' wr w8 := ((Fr.drew wr).mono (fun _ h => h.elim)).trans hf8 (fun _ h => .inl h)
          exact (hfr.trans h1 (fun j hj => (hfp' j hj).imp .inl id)).trans hfs (fun j e => .inl (.inr e))
        have hs9 : ∀ j, fp8 j → fp j ∨ w7.heap.size ≤ j := fun j hj => (hs8 j hj).elim (hfp' j) (fun h => .inr (Nat.le_trans hfr.size h))
        have hlog9 : IsLog (w8.setCell ⟨L, 1, none⟩ (.int .i64 ((at_ + (k + 1) : Nat) : Int))) L D (at_ + (k + 1)) := hset
        have ec : ((at_ + (k + 1) : Nat) : Int) = (at_ : Int) + k + 1 := by omega
        rw [ec] at hd9 hff hlog9
        have HD9 := Lib.hid hd9
        have HFF := Lib.hid hff
        have HS9 := Lib.hid hlog9
        clear hd9 hff hset hfs hlog9 ec
        by_cases hlast : m = k + 1
        · subst hlast
          go_wp2
          go_roundw
          case rel => exact ⟨k + 1, k * 64, fp8, by omega, by simp, fun h => absurd h (by omega), HD9.out, HS9.out, HFF.out, hs9⟩
          case measure => simp [lenV]; try omega
        · go_wp2
          go_roundw
          case rel => exact ⟨k + 1, k * 64 + 64, fp8, by omega, by rw [show (m - k) * 64 - 64 = (m - (k + 1)) * 64 from by omega], fun h => by omega, HD9.out, HS9.out, HFF.out, hs9⟩
          case measure => simp [lenV]; try omega
    · obtain rfl : k = m := by omega
      go_wp2
      go_ret
      refine ⟨rfl, fp', ?_, hlr, ?_, ?_⟩
      · rw [HADD.out]; exact hdr
      · exact (hf67.mono (fun _ h => h.elim)).trans hfr (fun j h => .inl h)
      · exact fun j hj => (hfp' j hj).imp id (fun h => Nat.le_trans hf67.size h)
end Go.Proofs.Ytanlgidliflepaa
