/- The law WallsSure: it tells true. Conditions: what a Go slice has. -/
import Derived.Test.YtanlgidliflepaaAllC
import Derived.Test.YtanlgidliflepaaPlain4
import Derived.Deep.DeepCutAuto
namespace Go.Proofs.Ytanlgidliflepaa
open Go.RowKit

def KeptAt (w : World) (B : Nat) (a0 : Option Addr) (n cap fo ke tn : Nat) : Prop := w.heap[B]? = some (.cells #[.slice a0 n cap, .int .u8 (fo : Nat), .int .u64 (ke : Nat), .int .u8 (tn : Nat)] 44 (0, 0))
theorem KeptAt.cells {w : World} {B : Nat} {a0 : Option Addr} {n cap fo ke tn : Nat} (h : KeptAt w B a0 n cap fo ke tn) :
    w.cell? ⟨B, 0, none⟩ = some (.slice a0 n cap) ∧ w.cell? ⟨B, 1, none⟩ = some (.int .u8 (fo : Nat)) ∧ w.cell? ⟨B, 2, none⟩ = some (.int .u64 (ke : Nat)) ∧ w.cell? ⟨B, 3, none⟩ = some (.int .u8 (tn : Nat)) :=
  ⟨blk_cell h 0 rfl, blk_cell h 1 rfl, blk_cell h 2 rfl, blk_cell h 3 rfl⟩

theorem IsLx.notLog {good : Nat → Prop} {w : World} {a : Option Addr} {ls : List (List UInt8)} {L D at_ : Nat} (h : IsLx good w a ls) (hL : IsLog w L D at_) : IsLx (fun k => good k ∧ k ≠ L) w a ls := by
  have hc : ∀ o v, w.cell? ⟨L, o, none⟩ = some v → v = .pointer (some ⟨D, 0, none⟩) ∨ v = .int .i64 (at_ : Nat) := by
    intro o v hv
    rw [cell_of_row w L o _ _ _ hL] at hv
    match o with
    | 0 => left; simpa using hv.symm
    | 1 => right; simpa using hv.symm
    | o + 2 => simp at hv
  rcases h with h | ⟨b, off, rfl, hb, h⟩
  · exact .inl h
  · by_cases h0 : ls = []
    · exact .inl h0
    have hpos : 0 < ls.length := List.length_pos_iff.2 h0
    refine .inr ⟨b, off, rfl, ⟨hb, ?_⟩, fun j hj => ?_⟩
    · rintro rfl
      obtain ⟨x, c, h1, _⟩ := h 0 hpos
      rcases hc _ _ h1 with e | e <;> cases e
    · obtain ⟨x, c, h1, h2, h3, h4, h5⟩ := h j hj
      refine ⟨x, c, h1, h2, h3, h4, fun hne y hy => ⟨h5 hne y hy, ?_⟩⟩
      rintro rfl
      rcases h2 with h2 | ⟨b', o', e, h2⟩
      · exact hne h2
      · rw [hy] at e; cases e
        have := h2 0 (List.length_pos_iff.2 hne)
        rcases hc _ _ this with e | e <;> cases e

theorem sure_p {w5 w6 w7 w8 w9 : World} {C L6 at6 E6 : Nat} {a6 : Option Addr} {ps : List (List UInt8)} {fpC fp6 fp8 : Nat → Prop} (hI6 : IsLx (fun k => w5.heap.size ≤ k ∧ k < E6) w6 a6 ps) (hlog : IsLog w6 L6 C at6) (hE6 : E6 ≤ w6.heap.size) (hlt : ∀ k, fpC k → k < w5.heap.size)
    (hsb6 : ∀ k, fp6 k → fpC k ∨ E6 ≤ k) (hfq : Fr noBlk w6 w7) (hf8 : Fr (fun k => fp6 k ∨ k = L6) w7 w8) (hsb8 : ∀ k, fp8 k → fp6 k ∨ w7.heap.size ≤ k) (hfr9 : Fr fp8 w8 w9) : IsL w9 a6 ps := by
  have hI7x := (hI6.notLog hlog).fr hfq (fun _ _ => not_noBlk _)
  have h6 : ∀ k, fp6 k → ¬ ((w5.heap.size ≤ k ∧ k < E6) ∧ k ≠ L6) := fun k hk e => by
    rcases hsb6 k hk with h | h
    · have := hlt k h; omega
    · omega
  have hI8x := hI7x.fr hf8 (fun k hk e => e.elim (fun e => h6 k e hk) (fun e => hk.2 e))
  exact (hI8x.fr hfr9 (fun k hk e => (hsb8 k e).elim (fun h => h6 k h hk) (fun h => by have := hfq.size; omega))).isL
theorem sure_len {rs ps : List (List UInt8)} {more : List UInt8} (e : rs = ps ++ [more]) : rs.length = ps.length + 1 := by rw [e, List.length_append]; rfl
theorem sure_z1 {a b : Nat} (h : a = b + 1) : ((a : Int) == (b : Int) + 1) = true := by rw [beq_iff_eq]; omega
theorem sure_take {good : Nat → Prop} {w : World} {a : Option Addr} {rs ps : List (List UInt8)} (h : IsLx good w a rs) (e : rs.take ps.length = ps) : IsL w a ps := by
  have := h.take ps.length
  rw [e] at this
  exact this.isL
theorem sure_last {good : Nat → Prop} {w : World} {a : Option Addr} {rs ps : List (List UInt8)} {more : List UInt8} (h : IsLx good w a rs) (e : rs = ps ++ [more]) : ∃ b o, a = some ⟨b, o, none⟩ ∧ ∀ w', Fr noBlk w w' → ∃ x c, w'.cell? ⟨b, o + ps.length, none⟩ = some (.slice x more.length c) ∧ IsB w' x more := by
  have l : rs.length = ps.length + 1 := by rw [e, List.length_append]; rfl
  obtain ⟨b, o, rfl, _⟩ := h.resolve_left (by rintro rfl; simp at l)
  refine ⟨b, o, rfl, fun w' hf => ?_⟩
  obtain ⟨b', o', e', _, hq⟩ := (h.fr hf (fun _ _ => not_noBlk _)).resolve_left (by rintro rfl; simp at l)
  cases e'
  obtain ⟨x, c, e1, i1, _⟩ := hq ps.length (by omega)
  have e2 : rs[ps.length]'(by omega) = more := by subst e; simp
  rw [e2] at e1 i1
  exact ⟨x, c, e1, i1⟩

set_option maxRecDepth 100000 in
set_option maxHeartbeats 4000000 in
theorem wallsSure_any (a0 : Option Addr) (cap : Nat) (ls : List (List UInt8)) (fo ke tn : Nat) (am : Option Addr) (cm : Nat) (more : List UInt8) (w : World) (ha : IsLx (fun k => k < w.heap.size) w a0 ls) (hll : ls.length ≤ 140737488355328) (hlc : ls.length ≤ cap)
    (hfo : fo < 256) (hke : ke < 18446744073709551616) (hto : tn < 256) (hm : IsB w am more) (hml : more.length ≤ 140737488355328) (hmb : more ≠ [] → ∀ y, am = some y → y.block < w.heap.size) :
    Calls Try.prog 4 #[.agg #[.slice a0 ls.length cap, .int .u8 (fo : Nat), .int .u64 (ke : Nat), .int .u8 (tn : Nat)], .slice am more.length cm] w fun e w' => e = .returned (.bool true) ∧ Fr noBlk w w' := by
  have HAL := Lib.hid alive_any
  have hfr0 := Fr.alloc w (.cells #[.slice a0 ls.length cap, .int .u8 (fo : Nat), .int .u64 (ke : Nat), .int .u8 (tn : Nat)] 44)
  have hb0 : KeptAt (w.alloc (.cells #[.slice a0 ls.length cap, .int .u8 (fo : Nat), .int .u64 (ke : Nat), .int .u8 (tn : Nat)] 44)) w.heap.size a0 ls.length cap fo ke tn := heap_alloc_new _ _
  go_enter Try.func4, Try.ntmps4
  go_wp2_with fail
  obtain ⟨w0, hw0⟩ : ∃ x, w.alloc (.cells #[.slice a0 ls.length cap, .int .u8 (fo : Nat), .int .u64 (ke : Nat), .int .u8 (tn : Nat)] 44) = x := ⟨_, rfl⟩
  rw [hw0] at hfr0 hb0 ⊢
  clear hw0
  obtain ⟨B, hB⟩ : ∃ x, w.heap.size = x := ⟨_, rfl⟩
  rw [hB] at hb0 ⊢
  have hblt := blk_lt hb0
  clear hB
  have ha0 := ha.fr hfr0 (fun _ _ => not_noBlk _)
  refine (HAL.out w0).mono ?_
  rintro e w1 ⟨rfl, hf1⟩
  obtain ⟨k0, k1, k2, k3⟩ := KeptAt.cells (hf1.blk hb0 (not_noBlk _))
  by_cases h40 : 40 < ls.length
  · go_wp2_with (go_at_call 10; (with_reducible refine (HAL.out w1).mono ?_); rintro e w2 ⟨rfl, hf2⟩)
    go_ret
    exact ⟨rfl, (hfr0.trans hf1 (fun _ h => h.elim)).trans hf2 (fun _ h => h.elim)⟩
  have HRS := Lib.hid (recordsSize_any a0 ls cap w1 hll (ha0.isL.still hf1))
  have d40 : decide ((40 : Int) < (ls.length : Int)) = false := decide_eq_false (by omega)
  by_cases h1000 : 1000 < more.length
  · have d1000 : decide ((1000 : Int) < (more.length : Int)) = true := decide_eq_true (by omega)
    go_wp2_with (go_at_call 11; (with_reducible refine HRS.out.mono ?_); rintro e w1' ⟨n, rfl, hn, rfl⟩; by_cases h20 : 20000 < n)
    all_goals
      go_wp2_with (go_at_call 10; (with_reducible refine (HAL.out w1).mono ?_); rintro e w2 ⟨rfl, hf2⟩)
      go_ret
      exact ⟨rfl, (hfr0.trans hf1 (fun _ h => h.elim)).trans hf2 (fun _ h => h.elim)⟩
  have d1000 : decide ((1000 : Int) < (more.length : Int)) = false := decide_eq_false (by omega)
  go_wp2_with (go_at_call 11; (with_reducible refine HRS.out.mono ?_); rintro e w1' ⟨n, rfl, hn, rfl⟩; by_cases h20 : 20000 < n)
  · go_wp2_with (go_at_call 10; (with_reducible refine (HAL.out w1).mono ?_); rintro e w2 ⟨rfl, hf2⟩)
    go_ret
    exact ⟨rfl, (hfr0.trans hf1 (fun _ h => h.elim)).trans hf2 (fun _ h => h.elim)⟩
  have hlens : lens ls ≤ 20000 := by have := hn (by omega); omega
  have hsec : ∀ k, k ≤ 40 → secsAll (ls.take k) ≤ 400 := fun k hk => by have := lens_take_le ls k; omega
  have hsecA : secsAll ls ≤ 400 := by have := hsec ls.length (by omega); rwa [List.take_length] at this
  have HN := Lib.hid (new_law 1200 w1 (by omega) (by omega) (nI := 1200) rfl)
  go_wp2_with (go_at_call 12; (with_reducible refine HN.out.mono ?_); rintro e w2 ⟨D, S1, fp1, rfl, hd1, hn1, hw1, hp1, hb1, hf2⟩)
  clear HN
  have HO := Lib.hid (open_law w0 D S1 fp1 w2 hd1 (by rw [hw1]; exact Nat.zero_le _) (hf1.trans hf2 (fun _ h => h.elim)) (fun k hk => Nat.le_trans hf1.size (hb1 k hk)))
  have hkb : fo % (ls.length + 1) ≤ ls.length := by have := Nat.mod_lt fo (show 0 < ls.length + 1 by omega); omega
  obtain ⟨kk, hkk⟩ : ∃ kk, kk = fo % (ls.length + 1) := ⟨_, rfl⟩
  rw [← hkk] at hkb
  have HKK := Lib.hid hkk
  clear hkk
  have hkk2 : (kk : Int) = if 0 < ls.length then (fo : Int) % ((ls.length : Int) + 1) else 0 := by
    have := HKK.out
    split
    · rw [this, Int.natCast_emod, Int.natCast_add]; rfl
    · rw [this, show ls.length = 0 by omega]; omega
  have HK2 := Lib.hid hkk2
  clear hkk2
  go_upto_if 56 with (go_at_call 9; (with_reducible refine HO.out.mono ?_); rintro e w3 ⟨L, a3, c3, rs3, fp3, E3, S3, rfl, hp3, hc3, hn3, hL3, hLE3, hE3, hI3, hs3, hw3, hsu3, hnn3, hsb3, hfr3⟩; obtain rfl := pairs_inj (hp1.symm.trans hp3); obtain ⟨q0, q1, q2, q3⟩ := KeptAt.cells (hs3.fr.blk hb0 (not_noBlk _)); clear k0 k1 k2 k3)
  clear HO
  rw [show decide ((20000 : Int) < (n : Int)) = false from decide_eq_false (by omega)]
  have hS3 : S3.n = 1200 := by rw [hnn3, hn1]
  clear hp1 hp3 hnn3 hn1 hI3 hn3 hc3 hsu3 hsb3 hfr3 hd1 hw1 hb1
  go_cut [10] (fun s10 wx => s10 = .int .i64 (kk : Nat) ∧ wx = w3)
  case first =>
    have hK := HK2.out
    by_cases h0 : 0 < ls.length
    · rw [if_pos h0] at hK
      have HK := Lib.hid hK
      clear hK
      have d0 : decide ((0 : Int) < (ls.length : Int)) = true := decide_eq_true (by omega)
      go_wp2_with fail
      go_meet
      exact ⟨by rw [HK.out], rfl⟩
    · rw [if_neg h0] at hK
      have HK := Lib.hid hK
      clear hK
      have d0 : decide ((0 : Int) < (ls.length : Int)) = false := decide_eq_false (by omega)
      go_wp2_with fail
      go_meet
      exact ⟨by rw [HK.out], rfl⟩
  case rest =>
    obtain ⟨rfl, rfl⟩ := hcut
    go_wp2_with fail
    go_loopw [11] (fun i wr => ∃ (k : Nat) (S : Dk) (fp : Nat → Prop), k ≤ ls.length + 1 ∧ i = .int .i64 k ∧ Sess w0 wr D L (secsAll (ls.take k)) S fp (ls.take k) ∧ S.n = 1200 ∧ (kk < k → Tail S (secsAll (ls.take kk)) (ls.take kk) ∧ secsAll (ls.take kk) + S.waits.length = secsAll (ls.take k))) (fun i _ => ls.length + 1 - (intOf i).toNat)
    case atStart => exact ⟨0, S3, fp3, by omega, rfl, by rw [List.take_zero]; exact hs3, hS3, fun h => absurd h (by omega)⟩
    case round =>
      obtain ⟨k, S, fp, hk, rfl, hs, hSn, hta⟩ := hrel
      have HTA := Lib.hid hta
      clear hta
      obtain ⟨q0, q1, q2, q3⟩ := KeptAt.cells (hs.fr.blk hb0 (not_noBlk _))
      by_cases hle : k ≤ ls.length
      · have b1 : (k : Int) ≤ (ls.length : Int) := by omega
        by_cases hlt : k < ls.length
        · by_cases hkk : k = kk
          · have t1 : ((k : Int) == (kk : Int)) = true := by rw [beq_iff_eq]; omega
            have hsy : S.sync.n = 1200 := hSn
            have HF := Lib.hid (force_law hs)
            have htl := Tail.sync hs.holds
            have hwz : S.sync.waits.length = 0 := rfl
            obtain ⟨S9, hS9⟩ : ∃ x, S.sync = x := ⟨_, rfl⟩
            rw [hS9] at HF htl hsy hwz
            clear hS9
            have HTL := Lib.hid htl
            have HKE := Lib.hid hkk
            clear htl hkk
            obtain ⟨b, off, rfl, _⟩ := ha0.resolve_left (by rintro rfl; simp at hlt)
            have hcell : ∀ w', Fr noBlk w0 w' → ∃ x c, w'.cell? ⟨b, off + k, none⟩ = some (.slice x ls[k].length c) ∧ IsB w' x ls[k] ∧ ls[k].length ≤ 140737488355328 := by
              intro w' hf
              obtain ⟨b', off', e, _, hq⟩ := (ha0.fr hf (fun _ _ => not_noBlk _)).resolve_left (by rintro rfl; simp at hlt)
              cases e
              obtain ⟨x, c, e1, i1, _, h47, _⟩ := hq k hlt
              exact ⟨x, c, e1, i1, h47⟩
            have HT := Lib.hid (List.take_succ_eq_append_getElem hlt)
            have hsk := hsec (k + 1) (by omega)
            rw [HT.out, secsAll_append] at hsk
            generalize hr : ls[k] = r at *
            clear hr
            have hsr : secsAll [r] = secs r.length := by simp [secsAll]
            rw [hsr] at hsk
            have b2 : (k : Int) < (ls.length : Int) := by omega
            go_wp2_with (go_at_call 7; ((with_reducible refine HF.out.mono ?_); rintro e w9 ⟨rfl, hs9, hf9⟩; obtain ⟨r0, r1, r2, r3⟩ := KeptAt.cells (hs9.fr.blk hb0 (not_noBlk _)); obtain ⟨x, c, e1, i1, h47⟩ := hcell _ hs9.fr))

            by_cases hlong : 16384 < r.length
            · have HA := Lib.hid (add_long L D _ x r.length c _ hs9.log hlong (by omega))
              go_wp2_with (go_at_call 6; (with_reducible refine HA.out.mono ?_); rintro e w8 ⟨rfl, rfl⟩)
              go_ret
              refine ⟨?_, hfr0.trans hs9.fr (fun _ h => h.elim)⟩
              show Ending.returned (.bool (decide ((16384 : Int) < (r.length : Int)))) = _
              rw [decide_eq_true (by omega)]
            · have HA := Lib.hid (add_law hs9 x r r.length c rfl i1 (by omega) (by rw [hsy]; omega))
              have hadd : secsAll (ls.take k) + secs r.length = secsAll (ls.take (k + 1)) := by rw [HT.out, secsAll_append, hsr]
              have HADD := Lib.hid hadd
              clear hadd
              go_wp2_with (go_at_call 6; (with_reducible refine HA.out.mono ?_); rintro e w8 ⟨rfl, fp8, hs8, hf8, hsb8⟩; obtain ⟨u0, u1, u2, u3⟩ := KeptAt.cells (hs8.fr.blk hb0 (not_noBlk _)))
              have hT : kk < k + 1 → Tail (S9.add (secsAll (ls.take k)) r) (secsAll (ls.take kk)) (ls.take kk) ∧ secsAll (ls.take kk) + (S9.add (secsAll (ls.take k)) r).waits.length = secsAll (ls.take (k + 1)) := by
                intro hlt2
                obtain ⟨t1, t2⟩ := (show Tail S9 (secsAll (ls.take kk)) (ls.take kk) ∧ secsAll (ls.take kk) + S9.waits.length = secsAll (ls.take k) from by rw [← HKE.out]; exact ⟨HTL.out, by omega⟩)
                have hfl := frame_length r
                obtain ⟨a1, a2, _⟩ := t1.adds (secsAll (ls.take k)) (by omega) (frame r) (secs r.length) (by show _ ≤ S9.n; rw [hsy]; omega) (by omega)
                exact ⟨a1, by rw [← HADD.out]; show _ + (addTo S9 _ _ _).waits.length = _; omega⟩
              go_roundw
              case rel => exact ⟨k + 1, _, fp8, by omega, by go_num, by rw [← HADD.out, HT.out]; exact hs8, by rw [add_n]; exact hsy, hT⟩
              case measure => (simp [intOf]; try omega)
          · have t1 : ((k : Int) == (kk : Int)) = false := by rw [beq_eq_false_iff_ne]; omega
            obtain ⟨b, off, rfl, _⟩ := ha0.resolve_left (by rintro rfl; simp at hlt)
            have hcell : ∀ w', Fr noBlk w0 w' → ∃ x c, w'.cell? ⟨b, off + k, none⟩ = some (.slice x ls[k].length c) ∧ IsB w' x ls[k] ∧ ls[k].length ≤ 140737488355328 := by
              intro w' hf
              obtain ⟨b', off', e, _, hq⟩ := (ha0.fr hf (fun _ _ => not_noBlk _)).resolve_left (by rintro rfl; simp at hlt)
              cases e
              obtain ⟨x, c, e1, i1, _, h47, _⟩ := hq k hlt
              exact ⟨x, c, e1, i1, h47⟩
            have HT := Lib.hid (List.take_succ_eq_append_getElem hlt)
            have hsk := hsec (k + 1) (by omega)
            rw [HT.out, secsAll_append] at hsk
            generalize hr : ls[k] = r at *
            clear hr
            have hsr : secsAll [r] = secs r.length := by simp [secsAll]
            rw [hsr] at hsk
            have b2 : (k : Int) < (ls.length : Int) := by omega
            obtain ⟨x, c, e1, i1, h47⟩ := hcell _ hs.fr
            by_cases hlong : 16384 < r.length
            · have HA := Lib.hid (add_long L D _ x r.length c _ hs.log hlong (by omega))
              go_wp2_with (go_at_call 6; (with_reducible refine HA.out.mono ?_); rintro e w8 ⟨rfl, rfl⟩)
              go_ret
              refine ⟨?_, hfr0.trans hs.fr (fun _ h => h.elim)⟩
              show Ending.returned (.bool (decide ((16384 : Int) < (r.length : Int)))) = _
              rw [decide_eq_true (by omega)]
            · have HA := Lib.hid (add_law hs x r r.length c rfl i1 (by omega) (by rw [hSn]; omega))
              have hadd : secsAll (ls.take k) + secs r.length = secsAll (ls.take (k + 1)) := by rw [HT.out, secsAll_append, hsr]
              have HADD := Lib.hid hadd
              clear hadd
              go_wp2_with (go_at_call 6; (with_reducible refine HA.out.mono ?_); rintro e w8 ⟨rfl, fp8, hs8, hf8, hsb8⟩; obtain ⟨u0, u1, u2, u3⟩ := KeptAt.cells (hs8.fr.blk hb0 (not_noBlk _)))
              have hT : kk < k + 1 → Tail (S.add (secsAll (ls.take k)) r) (secsAll (ls.take kk)) (ls.take kk) ∧ secsAll (ls.take kk) + (S.add (secsAll (ls.take k)) r).waits.length = secsAll (ls.take (k + 1)) := by
                intro hlt2
                obtain ⟨t1, t2⟩ := HTA.out (by omega)
                have hfl := frame_length r
                obtain ⟨a1, a2, _⟩ := t1.adds (secsAll (ls.take k)) (by omega) (frame r) (secs r.length) (by show _ ≤ S.n; rw [hSn]; omega) (by omega)
                exact ⟨a1, by rw [← HADD.out]; show _ + (addTo S _ _ _).waits.length = _; omega⟩
              go_roundw
              case rel => exact ⟨k + 1, _, fp8, by omega, by go_num, by rw [← HADD.out, HT.out]; exact hs8, by rw [add_n]; exact hSn, hT⟩
              case measure => (simp [intOf]; try omega)
        · obtain rfl : k = ls.length := by omega
          have b2 : ¬ ((ls.length : Int) < (ls.length : Int)) := by omega
          have HTL2 := Lib.hid (show ls.take (ls.length + 1) = ls.take ls.length by rw [List.take_length, List.take_of_length_le (by omega)])
          by_cases hkk : ls.length = kk
          · have t1 : ((ls.length : Int) == (kk : Int)) = true := by rw [beq_iff_eq]; omega
            have hsy : S.sync.n = 1200 := hSn
            have HF := Lib.hid (force_law hs)
            have htl := Tail.sync hs.holds
            have hwz : S.sync.waits.length = 0 := rfl
            obtain ⟨S9, hS9⟩ : ∃ x, S.sync = x := ⟨_, rfl⟩
            rw [hS9] at HF htl hsy hwz
            clear hS9
            have HTL := Lib.hid htl
            have HKE := Lib.hid hkk
            clear htl hkk
            go_wp2_with (go_at_call 7; (with_reducible refine HF.out.mono ?_); rintro e w9 ⟨rfl, hs9, hf9⟩; obtain ⟨r0, r1, r2, r3⟩ := KeptAt.cells (hs9.fr.blk hb0 (not_noBlk _)))
            go_roundw
            case rel => exact ⟨ls.length + 1, _, fp, by omega, by go_num, by rw [HTL2.out]; exact hs9, hsy, fun _ => by rw [HTL2.out, ← HKE.out]; exact ⟨HTL.out, by omega⟩⟩
            case measure => (simp [intOf]; try omega)
          · have t1 : ((ls.length : Int) == (kk : Int)) = false := by rw [beq_eq_false_iff_ne]; omega
            go_wp2
            go_roundw
            case rel => exact ⟨ls.length + 1, _, fp, by omega, by go_num, by rw [HTL2.out]; exact hs, hSn, fun _ => by rw [HTL2.out]; exact HTA.out (by omega)⟩
            case measure => (simp [intOf]; try omega)
      · obtain rfl : k = ls.length + 1 := by omega
        obtain ⟨ht, hw⟩ := HTA.out (by omega)
        rw [List.take_of_length_le (show ls.length ≤ ls.length + 1 by omega)] at hs hw
        clear HTA
        have b1 : ¬ ((ls.length : Int) + 1 ≤ (ls.length : Int)) := by omega
        have HF := Lib.hid (fail_law hs ke ((tn : Int) % 80 - 1) hke (by omega) (by omega) (kI := (ke : Nat)) rfl)
        obtain ⟨p2, hp2, hpl, hps⟩ := sure_law hs.holds ht hw ke ((tn : Int) % 80 - 1)
        clear ht hw
        go_wp2_with (go_at_call 13; (with_reducible refine HF.out.mono ?_); rintro e w5 ⟨C, fpC, rfl, hdC, hnC, hC1, hC2, hf5⟩)
        clear HF
        have hs5 := hs.still hf5
        obtain ⟨SC, hSC, hwC⟩ : ∃ S', S.fail ke ((tn : Int) % 80 - 1) = S' ∧ S'.waits = [] := ⟨_, rfl, rfl⟩
        rw [hSC] at hdC hp2 hnC
        rw [hSn] at hnC
        clear hSC
        have HO := Lib.hid (open_law w0 C SC fpC w5 hdC (by rw [hwC]; exact Nat.zero_le _) hs5.fr (fun k hk => Nat.le_trans hs.fr.size (hC1 k hk)))
        go_wp2_with (go_at_call 9; (with_reducible refine HO.out.mono ?_); rintro e w6 ⟨L6, a6, c6, ps, fp6, E6, S6, rfl, hp6, hc6, hn6, hL6, hLE6, hE6, hI6, hs6, hw6, hsu6, hnn6, hsb6, hfr6⟩)
        clear HO
        have hpe := pairs_inj (hp6.symm.trans hp2)
        have e1 : (ls.take kk).length = kk := by rw [List.length_take]; omega
        have l1 : kk ≤ ps.length := by rw [hpe, List.length_append, e1]; omega
        have l2 : ps.length ≤ ls.length := by rw [hpe, List.length_append, e1]; rw [List.length_drop] at hpl; omega
        have l3 : ps.take kk = ls.take kk := by rw [hpe]; exact List.take_left' e1
        have l4 : secsAll ps ≤ 400 := by
          have h1 : secsAll ls = secsAll (ls.take kk) + secsAll (ls.drop kk) := by rw [← secsAll_append, List.take_append_drop]
          rw [hpe, secsAll_append]; omega
        have e2 : (ps.take kk).length = kk := by rw [List.length_take]; omega
        have HSR := fun nq => sameRecords_q a6 a0 (ps.take kk) (ls.take kk) c6 cap (w6.drewN nq) (by omega) (by omega) ((hI6.take kk).isL.still (Fr.drewN _ _)) (((ha0.fr hs6.fr (fun _ _ => not_noBlk _)).take kk).isL.still (Fr.drewN _ _))
        rw [decide_eq_true l3, e1, e2] at HSR
        have HSR := Lib.hid HSR
        have HL3 := Lib.hid l3
        have HE := Lib.hid e1
        have HE2 := Lib.hid e2
        have HPE := Lib.hid hpe
        clear l3 e1 e2 hpe
        have d1 : decide ((ps.length : Int) < (kk : Int)) = false := decide_eq_false (by omega)
        have d2 : decide ((ls.length : Int) < (ps.length : Int)) = false := decide_eq_false (by omega)
        have d3 : (kk : Int) ≤ (c6 : Int) := by omega
        have d4 : (kk : Int) ≤ (cap : Int) := by omega
        obtain ⟨v0, v1, v2, v3⟩ := KeptAt.cells (hs6.fr.blk hb0 (not_noBlk _))
        go_quiet ((go_at_call 14; exact Calls.quiet_of (HSR.out _)))
        have hfq := Fr.drewN w6 nq
        obtain ⟨w7, hw7⟩ : ∃ x, w6.drewN nq = x := ⟨_, rfl⟩
        rw [hw7] at hfq
        simp only [hw7]
        clear hw7
        have hs7 := hs6.still hfq
        have hn6 : S6.n = 1200 := by rw [hnn6]; exact hnC
        have hsm := secs_ge more.length
        have HA := Lib.hid (add_law hs7 am more more.length cm rfl ((hm.fr hfr0 (fun _ _ => not_noBlk _)).fr hs7.fr (fun _ _ => not_noBlk _)) (by omega) (by omega))
        go_wp2_with (go_at_call 6; (with_reducible refine HA.out.mono ?_); rintro e w8 ⟨rfl, fp8, hs8, hf8, hsb8⟩)
        have hwl8 := hs8.wl
        have hle8 := hs8.holds.le
        rw [add_n, hn6] at hle8
        have z4 : (ps.length : Int) + 1 ≤ 9223372036854775807 := by omega
        have HO := Lib.hid (open_law w0 C _ fp8 w8 hs8.dsk (by omega) hs8.fr hs8.new)
        go_wp2_with (go_at_call 9; (with_reducible refine HO.out.mono ?_); rintro e w9 ⟨L9, a9, c9, rs9, fp9, E9, S9, rfl, hp9, hc9, hn9, hL9, hLE9, hE9, hI9, hs9, hw9, hsu9, hnn9, hsb9, hfr9⟩; have hpe9 := pairs_inj (hp9.symm.trans hs8.holds.parse); have l9 : rs9.length = ps.length + 1 := sure_len hpe9; (have z1 : ((rs9.length : Int) == (ps.length : Int) + 1) = true := sure_z1 l9); (have z2 : (ps.length : Int) ≤ (c9 : Int) := by omega); (have z3 : (ps.length : Int) < (rs9.length : Int) := by omega); have HPE9 := Lib.hid hpe9; have HL9 := Lib.hid l9; clear hpe9 l9)
        clear HO
        have hpe9 := HPE9.out
        have t9 : rs9.take ps.length = ps := by rw [hpe9]; exact List.take_left' rfl
        have hps47 : ps.length ≤ 140737488355328 := by omega
        have hI9w := sure_take hI9 t9
        have hI9x := sure_p hI6 hs6.log hE6 hdC.lt hsb6 hfq hf8 hsb8 hfr9
        have HS9 := sameRecords_any a9 a6 ps ps c9 c6 w9 hps47 hps47 hI9w hI9x
        rw [decide_eq_true rfl] at HS9
        have HS9 := Lib.hid HS9
        obtain ⟨b9, o9, rfl, hcell⟩ := sure_last hI9 hpe9
        have hmw := hm.fr hfr0 (fun _ _ => not_noBlk _)
        clear hpe9 t9 hI9w hI9x
        go_wp2_with (go_at_call 14; (with_reducible refine HS9.out.mono ?_); rintro e w10 ⟨rfl, hf10⟩; obtain ⟨x, c, e1, i1⟩ := hcell _ hf10)
        have hF10 := hs9.fr.trans hf10 (fun _ h => h.elim)
        have HSB := sameB_any x am more more c cm w10 (by omega) (by omega) i1 (hmw.fr hF10 (fun _ _ => not_noBlk _))
        rw [decide_eq_true rfl] at HSB
        have HSB := Lib.hid HSB
        go_wp2_with (go_at_call 15; (with_reducible refine HSB.out.mono ?_); rintro e w11 ⟨rfl, hf11⟩)
        go_ret
        exact ⟨rfl, (hfr0.trans hF10 (fun _ h => h.elim)).trans hf11 (fun _ h => h.elim)⟩
end Go.Proofs.Ytanlgidliflepaa
