/- slices.Equal at bytes. Conditions: lengths that a Go slice has. -/
import Derived.Test.YtanlgidliflepaaDoorCloneB
namespace Go.Proofs.YtanlgidliflepaaDoor
open Go.RowKit

set_option maxHeartbeats 1000000 in
theorem eqB_any (a b : Option Addr) (l m : List UInt8) (ca cb : Nat) (w : World) (hl : l.length ≤ 140737488355328) (hm : m.length ≤ 140737488355328) (ha : IsB w a l) (hb : IsB w b m) :
    Calls Tryd.prog 58 #[.slice a l.length ca, .slice b m.length cb] w fun e w' => e = .returned (.bool (decide (l = m))) ∧ Fr noBlk w w' := by
  by_cases hne : l.length = m.length
  · have hlen : ((l.length : Int) != (m.length : Int)) = false := by rw [bne_eq_false_iff_eq]; omega
    have HN := Lib.hid hne
    clear hne
    go_enter Tryd.func58, Tryd.ntmps58
    go_wp2
    go_loopw [5, 13] (fun _ i wr => ∃ k : Nat, k ≤ l.length ∧ i = .int .i64 k ∧ l.take k = m.take k ∧ Fr noBlk w wr) (fun _ i _ => l.length - (intOf i).toNat)
    case atStart => exact ⟨0, by omega, rfl, rfl, Fr.refl _ _⟩
    case round =>
      obtain ⟨k, hk, rfl, htk, hfr⟩ := hrel
      have HTK := Lib.hid htk
      clear htk
      by_cases hlt : k < l.length
      · have hltm : k < m.length := by have := HN.out; omega
        obtain ⟨b1, o1, rfl, h1⟩ : ∃ b off, a = some ⟨b, off, none⟩ ∧ ∀ j (h : j < l.length), w.cell? ⟨b, off + j, none⟩ = some (.int .u8 (l[j].toNat : Int)) := ha.resolve_left (by rintro rfl; simp at hlt)
        obtain ⟨b2, o2, rfl, h2⟩ : ∃ b' off, b = some ⟨b', off, none⟩ ∧ ∀ j (h : j < m.length), w.cell? ⟨b', off + j, none⟩ = some (.int .u8 (m[j].toNat : Int)) := hb.resolve_left (by rintro rfl; simp at hltm)
        have c1 := hfr.cell (h1 k hlt) (not_noBlk _)
        have c2 := hfr.cell (h2 k hltm) (not_noBlk _)
        have HT := Lib.hid (List.take_succ_eq_append_getElem hlt)
        have HT2 := Lib.hid (List.take_succ_eq_append_getElem hltm)
        clear h1 h2 ha hb
        have b1' : (k : Int) < (l.length : Int) := by omega
        have b2' : (k : Int) < (m.length : Int) := by omega
        by_cases he : l[k] = m[k]
        · have hbne : ((l[k].toNat : Int) != (m[k].toNat : Int)) = false := by rw [bne_eq_false_iff_eq, he]
          have HE := Lib.hid he
          clear he
          go_wp2_with fail
          go_quiet (fail)
          go_wp2
          go_roundw
          case rel => exact ⟨k + 1, by omega, by go_num, by rw [HT.out, HT2.out, HTK.out, HE.out], hfr.trans (Fr.drewN _ _) (fun _ h => h.elim)⟩
          case measure => simp [intOf]; omega
        · have hbne : ((l[k].toNat : Int) != (m[k].toNat : Int)) = true := by rw [bne_iff_ne]; intro e; exact he (UInt8.toNat_inj.1 (by omega))
          have HE := Lib.hid he
          clear he
          go_wp2_with fail
          go_quiet (fail)
          go_wp2
          go_ret
          refine ⟨?_, hfr.trans (Fr.drewN _ _) (fun _ h => h.elim)⟩
          have : decide (l = m) = false := by
            rw [decide_eq_false_iff_not]; intro e; subst e; exact HE.out rfl
          rw [this]; rfl
      · obtain rfl : k = l.length := by omega
        go_wp2
        go_ret
        refine ⟨?_, hfr⟩
        have e := HTK.out
        rw [List.take_length, HN.out, List.take_length] at e
        rw [decide_eq_true e]; rfl
  · have hlen : ((l.length : Int) != (m.length : Int)) = true := by rw [bne_iff_ne]; omega
    go_enter Tryd.func58, Tryd.ntmps58
    go_wp2
    go_ret
    refine ⟨?_, Fr.refl _ _⟩
    rw [decide_eq_false (fun e => hne (by rw [e]))]; rfl
end Go.Proofs.YtanlgidliflepaaDoor
