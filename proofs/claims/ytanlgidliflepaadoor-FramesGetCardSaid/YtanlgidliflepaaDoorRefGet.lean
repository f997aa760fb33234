/- The reference's Get (concordatref05): its answer is 'getF' too. Conditions: lengths that memory bears. -/
import Derived.Test.YtanlgidliflepaaDoorRefPut
import Derived.Test.YtanlgidliflepaaDoorFrGet
import Derived.Test.YtanlgidliflepaaDoorConv
namespace Go.Proofs.YtanlgidliflepaaDoor
open Go.RowKit

theorem refSecs_any (n : Nat) (hn : n ≤ 1000000000000) (w : World) : Calls Tryd.prog 59 #[.int .i64 n] w fun e w' => e = .returned (.int .i64 (secs n : Nat)) ∧ w = w' := by
  go_enter Tryd.func59, Tryd.ntmps59
  go_wp2
  go_ret
  refine ⟨?_, rfl⟩
  show Ending.returned (Value.int .i64 ((8 + (n : Int) + 64 - 1) / 64)) = _
  have e : ((8 + (n : Int) + 64 - 1) / 64) = (((n + 71) / 64 : Nat) : Int) := by omega
  rw [e]; rfl
theorem numK_four (l : List UInt8) (h : 4 ≤ l.length) : (numK (l.take 4) : Int) = 16777216 * ((l[0]'(by omega)).toNat : Int) + 65536 * ((l[1]'(by omega)).toNat : Int) + 256 * ((l[2]'(by omega)).toNat : Int) + ((l[3]'(by omega)).toNat : Int) := by
  match l, h with
  | a :: b :: c :: d :: r, _ =>
    simp only [numK, List.take_succ_cons, List.take_zero, List.foldl_cons, List.foldl_nil, List.getElem_cons_zero, List.getElem_cons_succ]
    omega

theorem wrap_small {x : Int} (h0 : 0 ≤ x) (h1 : x ≤ 9223372036854775807) : wrap64 x = x := by unfold wrap64; omega
theorem wrap_four (y0 y1 y2 y3 n : Nat) (h0 : y0 < 256) (h1 : y1 < 256) (h2 : y2 < 256) (h3 : y3 < 256) (e : (n : Int) = 16777216 * (y0 : Int) + 65536 * (y1 : Int) + 256 * (y2 : Int) + (y3 : Int)) :
    wrap64 (wrap64 (wrap64 (wrap64 (16777216 * wrap64 (y0 : Int)) + wrap64 (65536 * wrap64 (y1 : Int))) + wrap64 (256 * wrap64 (y2 : Int))) + wrap64 (y3 : Int)) = (n : Int) := by
  rw [wrap_small (x := (y0 : Int)) (by omega) (by omega), wrap_small (x := (y1 : Int)) (by omega) (by omega), wrap_small (x := (y2 : Int)) (by omega) (by omega), wrap_small (x := (y3 : Int)) (by omega) (by omega)]
  rw [wrap_small (x := 16777216 * (y0 : Int)) (by omega) (by omega), wrap_small (x := 65536 * (y1 : Int)) (by omega) (by omega), wrap_small (x := 256 * (y2 : Int)) (by omega) (by omega)]
  rw [wrap_small (x := 16777216 * (y0 : Int) + 65536 * (y1 : Int)) (by omega) (by omega), wrap_small (x := 16777216 * (y0 : Int) + 65536 * (y1 : Int) + 256 * (y2 : Int)) (by omega) (by omega), wrap_small (x := 16777216 * (y0 : Int) + 65536 * (y1 : Int) + 256 * (y2 : Int) + (y3 : Int)) (by omega) (by omega)]
  exact e.symm
set_option maxRecDepth 20000 in
set_option maxHeartbeats 1600000 in
theorem refGet_any (a : Option Addr) (l : List UInt8) (cap : Nat) (w : World) (hl : l.length ≤ 140737488355328) (hc : l.length ≤ cap) (hc2 : cap ≤ 9223372036854775807) (hb : IsB w a l) :
    Calls Tryd.prog 13 #[.slice a l.length cap] w (Got w l) := by
  by_cases h8 : l.length < 8
  · have hg : getF l = none := by rw [getF, if_pos h8]
    have HG := Lib.hid hg
    have d8 : decide ((l.length : Int) < 8) = true := decide_eq_true (by omega)
    clear hg
    go_enter Tryd.func13, Tryd.ntmps13
    go_wp2_with fail
    go_ret3
    exact ⟨Fr.refl _ _, .inl ⟨HG.out, rfl⟩⟩
  have d8 : decide ((l.length : Int) < 8) = false := decide_eq_false (by omega)
  obtain ⟨b, off, rfl, hcell⟩ : ∃ b off, a = some ⟨b, off, none⟩ ∧ ∀ j (h : j < l.length), w.cell? ⟨b, off + j, none⟩ = some (.int .u8 (l[j].toNat : Int)) := hb.resolve_left (by rintro rfl; simp at h8)
  have hblt := World.block_lt_of_cell? w ⟨b, off + 0, none⟩ (hcell 0 (by omega))
  simp only at hblt
  have c0 := hcell 0 (by omega)
  rw [Nat.add_zero] at c0
  have c1 := hcell 1 (by omega)
  have c2 := hcell 2 (by omega)
  have c3 := hcell 3 (by omega)
  have hnum := numK_four l (by omega)
  have hx0 := (l[0]'(by omega)).toNat_lt
  have hx1 := (l[1]'(by omega)).toNat_lt
  have hx2 := (l[2]'(by omega)).toNat_lt
  have hx3 := (l[3]'(by omega)).toNat_lt
  generalize (l[0]'(by omega)).toNat = y0 at *
  generalize (l[1]'(by omega)).toNat = y1 at *
  generalize (l[2]'(by omega)).toNat = y2 at *
  generalize (l[3]'(by omega)).toNat = y3 at *
  have hn4 : numK (l.take 4) < 4294967296 := numK_lt l 4
  obtain ⟨n, hn⟩ : ∃ n, numK (l.take 4) = n := ⟨_, rfl⟩
  rw [hn] at hnum hn4
  have hv : wrap64 (wrap64 (wrap64 (wrap64 (16777216 * wrap64 (y0 : Int)) + wrap64 (65536 * wrap64 (y1 : Int))) + wrap64 (256 * wrap64 (y2 : Int))) + wrap64 (y3 : Int)) = (n : Int) := by
    exact wrap_four y0 y1 y2 y3 n hx0 hx1 hx2 hx3 hnum
  have HV := Lib.hid hv
  have i1 : (1 : Int) < (l.length : Int) := by omega
  have i2 : (2 : Int) < (l.length : Int) := by omega
  have i3 : (3 : Int) < (l.length : Int) := by omega
  have i0 : (0 : Int) < (l.length : Int) := by omega
  have HN := Lib.hid hn
  clear hcell hnum hn hx0 hx1 hx2 hx3 hv
  go_enter Tryd.func13, Tryd.ntmps13
  go_wp2_with fail
  go_quiet (fail)
  rw [HV.out]
  have hf1 := Fr.drewN w nq
  obtain ⟨w1, hw1⟩ : ∃ x, w.drewN nq = x := ⟨_, rfl⟩
  rw [hw1] at hf1 ⊢
  clear hw1 c0 c1 c2 c3
  by_cases h16 : 16384 < n
  · have HG := Lib.hid (show getF l = none by rw [getF, if_neg h8, HN.out, if_pos h16])
    have d16 : decide ((16384 : Int) < (n : Int)) = true := decide_eq_true (by omega)
    go_wp2_with fail
    go_ret3
    exact ⟨hf1, .inl ⟨HG.out, rfl⟩⟩
  have d16 : decide ((16384 : Int) < (n : Int)) = false := decide_eq_false (by omega)
  have HSEC := Lib.hid (refSecs_any n (by omega) w1)
  have hsg := secs_ge n
  by_cases hmany : l.length < secs n * 64
  · have HG := Lib.hid (show getF l = none by rw [getF, if_neg h8, HN.out, if_neg h16, if_pos hmany])
    have dm : decide ((l.length : Int) < (secs n : Int) * 64) = true := decide_eq_true (by omega)
    go_wp2_with (go_at_call 59; refine HSEC.out.mono ?_; rintro e w' ⟨rfl, hw⟩; obtain rfl := hw)
    go_ret3
    exact ⟨hf1, .inl ⟨HG.out, rfl⟩⟩
  have dm : decide ((l.length : Int) < (secs n : Int) * 64) = false := decide_eq_false (by omega)
  have hGF : getF l = if frame ((l.drop 8).take n) = l.take (secs n * 64) then some ((l.drop 8).take n, secs n) else none := by rw [getF, if_neg h8, HN.out, if_neg h16, if_neg hmany]
  have HGF := Lib.hid hGF
  clear hGF
  obtain ⟨r, hr⟩ : ∃ r, (l.drop 8).take n = r := ⟨_, rfl⟩
  have hrl : r.length = n := by rw [← hr, List.length_take, List.length_drop]; omega
  have hbr : IsB w (some ⟨b, off + 8, none⟩) r := by rw [← hr]; exact hb.sub 8 n
  have hbt : IsB w (some ⟨b, off, none⟩) (l.take (secs n * 64)) := by have := hb.sub 0 (secs n * 64); rwa [Nat.add_zero, List.drop_zero] at this
  rw [hr] at HGF
  have htl : (l.take (secs n * 64)).length = secs n * 64 := by rw [List.length_take]; omega
  generalize l.take (secs n * 64) = t at *
  clear hr hb
  have hbr1 := hbr.fr hf1 (fun _ _ => not_noBlk _)
  have e1 : (8 : Int) + n ≤ (cap : Int) := by omega
  have e2 : (8 : Int) ≤ 8 + (n : Int) := by omega
  have e3 : 8 < cap := by omega
  have HS1 := Lib.hid hf1.size
  have HRL := Lib.hid hrl
  go_wp2_with (first | (go_at_call 59; refine HSEC.out.mono ?_; rintro e w' ⟨rfl, hw⟩; obtain rfl := hw) | (at_builtin; refine wpList_append_bytes rfl (.const (.slice none 0 0)) (.tmp 47) rfl w.heap.size _ 0 [] rfl (World.ownsRow_nil _ _ _ _) (some ⟨b, off + 8, none⟩) r (8 + n - 8) (cap - 8) (by rw [HRL.out]; omega) rfl (fun h => by cases h) hbr1 (by rw [HRL.out]; omega) HS1.out ?_))
  intro v1 w2 ho1 hg1
  have hf2 : Fr noBlk w1 w2 := (Fr.grown hg1).mono (fun j h => by simp [Value.ownBlock] at h)
  obtain ⟨x1, k1, rfl, _⟩ := row_slice ho1
  have hnil1 : x1 = none → k1 = 0 := fun e => by
    subst e
    rcases ho1.2 with ⟨e, _⟩ | ⟨_, _, _, e, _⟩
    · cases e; rfl
    · cases e
  have hP := refPut_any x1 r k1 w2 (by omega) (isB_row2 ho1) hnil1
  have hfl := frame_length r
  rw [hrl] at hfl hP
  have HP := Lib.hid hP
  have HFL := Lib.hid hfl
  have HTL := Lib.hid htl
  have HN1 := Lib.hid hnil1
  clear hg1 hbr1 hrl hfl htl hP hnil1 hbr
  go_wp2_with (go_at_call 7; refine HP.out.mono ?_; rintro e w3 ⟨v3, rfl, ho3, hf3⟩)
  obtain ⟨x3, k3, rfl, hx3⟩ := row_slice ho3
  obtain ⟨g3, rfl⟩ : ∃ g, x3 = some ⟨g, 0, none⟩ := by
    rcases hx3 with ⟨_, h⟩ | ⟨g, h, _⟩
    · omega
    · exact ⟨g, h⟩
  have hF3 := (hf1.trans hf2 (fun _ h => h.elim)).trans hf3 (fun _ h => h.elim)
  have hb3 := hbt.fr hF3 (fun _ _ => not_noBlk _)
  have ho13 := hf3.row ho1 (fun _ _ => not_noBlk _)
  have cv1 : ∀ nq, (convert 22 9 (.slice (some ⟨g3, 0, none⟩) (secs n * 64) k3)).run Tryd.prog (w3.drewN nq) = .ok (.string ⟨(frame r).toArray⟩) (w3.drewN nq) := fun nq => by
    have := conv_bytes (w3.drewN nq) g3 0 k3 (frame r) (isB_row2 (n := secs n * 64) (c := k3) (base := w2.heap.size) (t := 5) ho3)
    rw [HFL.out] at this; exact this
  have cv2 : ∀ nq, (convert 22 9 (.slice (some ⟨b, off, none⟩) (secs n * 64) cap)).run Tryd.prog (w3.drewN nq) = .ok (.string ⟨t.toArray⟩) (w3.drewN nq) := fun nq => by
    have := conv_bytes (w3.drewN nq) b off cap t hb3
    rw [HTL.out] at this; exact this
  have j1 : (secs n : Int) * 64 ≤ (cap : Int) := by omega
  have j2 : (0 : Int) ≤ (secs n : Int) * 64 := by omega
  have j3 : IntKind.i64.wrap ((secs n : Int) * 64) = (secs n : Int) * 64 := IntWalk.i64_in _ (by omega)
  have j4 : ((secs n : Int) * 64).toNat = secs n * 64 := by omega
  clear ho3 hf3 hf2 hb3 hx3 ho1 hbt
  obtain ⟨F, hF⟩ : ∃ F, frame r = F := ⟨_, rfl⟩
  rw [hF] at cv1 HGF
  clear hF
  by_cases hft : F = t
  · have HG := Lib.hid (show getF l = some (r, secs n) by rw [HGF.out, if_pos hft])
    have hbf : (F == t) = true := by rw [beq_iff_eq]; exact hft
    clear hft HGF
    go_quiet (fail)
    go_wp2
    go_ret3
    refine ⟨hF3.trans (Fr.drewN _ _) (fun _ h => h.elim), .inr ⟨r, secs n, _, HG.out, rfl, ?_⟩⟩
    rw [HRL.out]
    exact (Fr.drewN w3 nq).row ho13 (fun _ _ => not_noBlk _)
  · have HG := Lib.hid (show getF l = none by rw [HGF.out, if_neg hft])
    have hbf : (F == t) = false := by rw [beq_eq_false_iff_ne]; exact hft
    clear hft HGF
    go_quiet (fail)
    go_wp2
    go_ret3
    exact ⟨hF3.trans (Fr.drewN _ _) (fun _ h => h.elim), .inl ⟨HG.out, rfl⟩⟩
end Go.Proofs.YtanlgidliflepaaDoor
