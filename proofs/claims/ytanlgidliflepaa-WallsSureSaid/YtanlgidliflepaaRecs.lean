/- Lists of bytes: how they lie in memory; RecordsSize, SameRecords. Conditions: lengths that a Go slice has. -/
import Derived.Test.YtanlgidliflepaaSameB
import Derived.Deep.RegionWith
namespace Go.Proofs.Ytanlgidliflepaa
open Go.RowKit

/-- The lists ls lie from the address a on: slices, each with its bytes. -/
def IsL (w : World) (a : Option Addr) (ls : List (List UInt8)) : Prop :=
  ls = [] ∨ ∃ b off, a = some ⟨b, off, none⟩ ∧ ∀ j (h : j < ls.length), ∃ x c, w.cell? ⟨b, off + j, none⟩ = some (.slice x ls[j].length c) ∧ IsB w x ls[j] ∧ ls[j].length ≤ c ∧ ls[j].length ≤ 140737488355328

theorem IsL.fr {fp : Nat → Prop} {w w' : World} {a : Option Addr} {ls : List (List UInt8)} (h : IsL w a ls) (hf : Fr fp w w') (hn : ∀ x, a = some x → ¬ fp x.block) (hr : ∀ b off j x n c, a = some ⟨b, off, none⟩ → w.cell? ⟨b, off + j, none⟩ = some (.slice (some x) n c) → ¬ fp x.block) : IsL w' a ls := by
  rcases h with h | ⟨b, off, rfl, h⟩
  · exact .inl h
  · refine .inr ⟨b, off, rfl, fun j hj => ?_⟩
    obtain ⟨x, c, h1, h2, h3⟩ := h j hj
    exact ⟨x, c, hf.cell h1 (hn _ rfl), h2.fr hf (fun y hy => by subst hy; exact hr b off j y _ c rfl h1), h3⟩
theorem IsL.still {w w' : World} {a : Option Addr} {ls : List (List UInt8)} (h : IsL w a ls) (hf : Fr noBlk w w') : IsL w' a ls := h.fr hf (fun _ _ => not_noBlk _) (fun _ _ _ _ _ _ _ _ => not_noBlk _)

theorem bytesSize_any (a : Option Addr) (n c : Nat) (w : World) : Calls Try.prog 26 #[.slice a n c] w fun e w' => e = .returned (.int .i64 n) ∧ w = w' := by
  go_enter Try.func26, Try.ntmps26
  go_wp2
  go_ret
  exact ⟨rfl, rfl⟩

def lens (ls : List (List UInt8)) : Nat := (ls.map (·.length)).sum
theorem lens_succ (ls : List (List UInt8)) (k : Nat) (h : k < ls.length) : lens (ls.take (k + 1)) = lens (ls.take k) + ls[k].length := by
  unfold lens; rw [List.take_succ_eq_append_getElem h, List.map_append, List.sum_append]; rfl

set_option maxHeartbeats 1000000 in
theorem recordsSize_any (a : Option Addr) (ls : List (List UInt8)) (ca : Nat) (w : World) (hl : ls.length ≤ 140737488355328) (ha : IsL w a ls) :
    Calls Try.prog 11 #[.slice a ls.length ca] w fun e w' => ∃ n : Nat, e = .returned (.int .i64 n) ∧ (n ≤ 1048576 → n = ls.length + lens ls) ∧ w = w' := by
  go_enter Try.func11, Try.ntmps11
  go_wp2
  go_loopw [3, 4] (fun n i wr => ∃ (k m : Nat), k ≤ ls.length ∧ i = .int .i64 k ∧ n = .int .i64 m ∧ m = ls.length + lens (ls.take k) ∧ m ≤ 140737488355328 + 140737488355328 + 1048576 ∧ w = wr) (fun n i _ => ls.length - (intOf i).toNat)
  case atStart => exact ⟨0, ls.length, by omega, rfl, rfl, by simp [lens], by omega, rfl⟩
  case round =>
    obtain ⟨k, m, hk, rfl, rfl, hm, hb, rfl⟩ := hrel
    have HM := Lib.hid hm
    clear hm
    by_cases hlt : k < ls.length
    · by_cases hmost : m ≤ 1048576
      · obtain ⟨b, off, rfl, h⟩ : ∃ b off, a = some ⟨b, off, none⟩ ∧ ∀ j (h : j < ls.length), ∃ x c, w.cell? ⟨b, off + j, none⟩ = some (.slice x ls[j].length c) ∧ IsB w x ls[j] ∧ ls[j].length ≤ c ∧ ls[j].length ≤ 140737488355328 := ha.resolve_left (by rintro rfl; simp at hlt)
        obtain ⟨x, c, hc, _, _, h47⟩ := h k hlt
        have HS := Lib.hid (lens_succ ls k hlt)
        clear h ha
        generalize hq : ls[k] = q at *
        have b1' : (k : Int) < (ls.length : Int) := by omega
        go_wp2_with (go_at_call 26; refine (bytesSize_any _ _ _ _).mono ?_; rintro e w' ⟨rfl, rfl⟩)
        go_roundw
        case rel => exact ⟨k + 1, m + q.length, by omega, by go_num, by go_num, by rw [HS.out, HM.out]; omega, by omega, trivial⟩
        case measure => simp [intOf]; omega
      · go_wp2
        go_ret
        exact ⟨m, rfl, fun h => absurd h hmost, rfl⟩
    · obtain rfl : k = ls.length := by omega
      go_wp2
      all_goals go_ret
      all_goals exact ⟨m, rfl, fun _ => by rw [HM.out, List.take_length], rfl⟩

set_option maxHeartbeats 1000000 in
theorem sameRecords_q (a b : Option Addr) (ls ms : List (List UInt8)) (ca cb : Nat) (w : World) (hl : ls.length ≤ 140737488355328) (hm : ms.length ≤ 140737488355328) (ha : IsL w a ls) (hb : IsL w b ms) :
    Calls Try.prog 14 #[.slice a ls.length ca, .slice b ms.length cb] w fun e w' => e = .returned (.bool (decide (ls = ms))) ∧ ∃ n, w' = w.drewN n := by
  by_cases hne : ls.length = ms.length
  · have hlen : ((ls.length : Int) != (ms.length : Int)) = false := by rw [bne_eq_false_iff_eq]; omega
    have HN := Lib.hid hne
    clear hne
    go_enter Try.func14, Try.ntmps14
    go_wp2
    go_loopw [5] (fun i wr => ∃ k : Nat, k ≤ ls.length ∧ i = .int .i64 k ∧ ls.take k = ms.take k ∧ ∃ n, wr = w.drewN n) (fun i _ => ls.length - (intOf i).toNat)
    case atStart => exact ⟨0, by omega, rfl, rfl, 0, rfl⟩
    case round =>
      obtain ⟨k, hk, rfl, htk, n0, hwr⟩ := hrel
      have hfr : Fr noBlk w wr := hwr ▸ Fr.drewN w n0
      have HWR := Lib.hid hwr
      clear hwr
      have HTK := Lib.hid htk
      clear htk
      by_cases hlt : k < ls.length
      · have hltm : k < ms.length := by have := HN.out; omega
        obtain ⟨b1, o1, rfl, h1⟩ : ∃ b off, a = some ⟨b, off, none⟩ ∧ ∀ j (h : j < ls.length), ∃ x c, wr.cell? ⟨b, off + j, none⟩ = some (.slice x ls[j].length c) ∧ IsB wr x ls[j] ∧ ls[j].length ≤ c ∧ ls[j].length ≤ 140737488355328 := (ha.still hfr).resolve_left (by rintro rfl; simp at hlt)
        obtain ⟨b2, o2, rfl, h2⟩ : ∃ b' off, b = some ⟨b', off, none⟩ ∧ ∀ j (h : j < ms.length), ∃ x c, wr.cell? ⟨b', off + j, none⟩ = some (.slice x ms[j].length c) ∧ IsB wr x ms[j] ∧ ms[j].length ≤ c ∧ ms[j].length ≤ 140737488355328 := (hb.still hfr).resolve_left (by rintro rfl; simp at hltm)
        obtain ⟨x1, c1, e1, f1, _, g1⟩ := h1 k hlt
        obtain ⟨x2, c2, e2, f2, _, g2⟩ := h2 k hltm
        have HT := Lib.hid (List.take_succ_eq_append_getElem hlt)
        have HT2 := Lib.hid (List.take_succ_eq_append_getElem hltm)
        clear h1 h2 ha hb
        generalize hq1 : ls[k] = q1 at *
        generalize hq2 : ms[k] = q2 at *
        have HQ1 := Lib.hid hq1
        have HQ2 := Lib.hid hq2
        clear hq1 hq2
        have b1' : (k : Int) < (ls.length : Int) := by omega
        have b2' : (k : Int) < (ms.length : Int) := by omega
        have HSB := Lib.hid (fun nq => sameB_q x1 x2 q1 q2 c1 c2 (wr.drewN nq) g1 g2 (f1.fr (Fr.drewN _ _) (fun _ _ => not_noBlk _)) (f2.fr (Fr.drewN _ _) (fun _ _ => not_noBlk _)))
        by_cases he : q1 = q2
        · simp only [decide_eq_true he] at HSB
          have HE := Lib.hid he
          clear he
          go_wp2_with fail
          go_quiet ((go_at_call 15; exact Calls.quiet_of (HSB.out _)))
          go_wp2
          go_roundw
          case rel => exact ⟨k + 1, by omega, by go_num, by rw [HT.out, HT2.out, HTK.out, HE.out], n0 + nq, by rw [HWR.out, World.drewN_drewN]⟩
          case measure => (simp [intOf]; try omega)
        · simp only [decide_eq_false he] at HSB
          have HE := Lib.hid he
          clear he
          go_wp2_with fail
          go_quiet ((go_at_call 15; exact Calls.quiet_of (HSB.out _)))
          go_wp2
          go_ret
          refine ⟨?_, n0 + nq, by rw [HWR.out, World.drewN_drewN]⟩
          have : decide (ls = ms) = false := by
            rw [decide_eq_false_iff_not]; intro e; subst e; exact HE.out (by rw [← HQ1.out, ← HQ2.out])
          rw [this]; rfl
      · obtain rfl : k = ls.length := by omega
        go_wp2
        go_ret
        refine ⟨?_, n0, HWR.out⟩
        have e := HTK.out
        rw [List.take_length, HN.out, List.take_length] at e
        rw [decide_eq_true e]; rfl
  · have hlen : ((ls.length : Int) != (ms.length : Int)) = true := by rw [bne_iff_ne]; omega
    go_enter Try.func14, Try.ntmps14
    go_wp2
    go_ret
    refine ⟨?_, 0, rfl⟩
    rw [decide_eq_false (fun e => hne (by rw [e]))]; rfl
theorem sameRecords_any (a b : Option Addr) (ls ms : List (List UInt8)) (ca cb : Nat) (w : World) (hl : ls.length ≤ 140737488355328) (hm : ms.length ≤ 140737488355328) (ha : IsL w a ls) (hb : IsL w b ms) :
    Calls Try.prog 14 #[.slice a ls.length ca, .slice b ms.length cb] w fun e w' => e = .returned (.bool (decide (ls = ms))) ∧ Fr noBlk w w' :=
  (sameRecords_q a b ls ms ca cb w hl hm ha hb).mono fun _ _ ⟨he, n, hn⟩ => ⟨he, hn ▸ Fr.drewN w n⟩
end Go.Proofs.Ytanlgidliflepaa
