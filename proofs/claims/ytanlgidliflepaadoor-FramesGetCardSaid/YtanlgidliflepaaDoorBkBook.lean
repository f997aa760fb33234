/- The book of lists, whole, where lists of bytes alone are kept: kept, and found apart. Conditions: none beyond it. -/
import Derived.Test.YtanlgidliflepaaDoorBkByte3
namespace Go.Proofs.YtanlgidliflepaaDoor
open Go.RowKit

def fB (v : Value) : Nat → Value := upd (fun _ => .slice none 0 0) 1 v
/-- A book of the lists hs of bytes; fp: its blocks and theirs. -/
structure BookB (w : World) (B K : Nat) (hs : List Held) (fp : Nat → Prop) (v : Value) : Prop where
  at_ : BookAt w K hs.length (fB v)
  row : w.ownsRow B 59 3 v hs.length (hcells hs)
  lists : Lists w B 5 1 hs
  apart : Apart hs
  small : hs.length ≤ 900000
  each : ∀ h ∈ hs, h.long = .slice none 0 0 ∧ h.k ≤ 1000000 ∧ h.n ≤ 1000000000
  fK : fp K
  fv : ∀ g, v.ownBlock = some g → fp g
  fl : ∀ g, lblk hs g → fp g
  lt : ∀ g, fp g → B ≤ g ∧ g < w.heap.size
def IsBook (w : World) (B K : Nat) (hs : List Held) (fp : Nat → Prop) : Prop := ∃ v, BookB w B K hs fp v

theorem IsBook.fr {w w' : World} {B K : Nat} {hs : List Held} {fp fq : Nat → Prop} (h : IsBook w B K hs fp) (hf : Fr fq w w') (hn : ∀ k, fp k → ¬ fq k) : IsBook w' B K hs fp := by
  obtain ⟨v, h⟩ := h
  exact ⟨v, hf.blk h.at_ (hn _ h.fK), hf.row h.row (fun g e => hn _ (h.fv g e)), fun i hi => by obtain ⟨xs, hx⟩ := h.lists i hi; exact ⟨xs, hf.row hx (fun g e => hn _ (h.fl g (lblk_of hi e)))⟩, h.apart, h.small, h.each, h.fK, h.fv, h.fl, fun g hg => ⟨(h.lt g hg).1, Nat.lt_of_lt_of_le (h.lt g hg).2 hf.size⟩⟩
theorem IsBook.lt {w : World} {B K : Nat} {hs : List Held} {fp : Nat → Prop} (h : IsBook w B K hs fp) : ∀ g, fp g → B ≤ g ∧ g < w.heap.size := by obtain ⟨v, h⟩ := h; exact h.lt
theorem IsBook.new {w : World} {B K : Nat} (h : w.heap[K]? = some (.cells #[.int .i64 0, .slice none 0 0, .slice none 0 0, .slice none 0 0, .slice none 0 0, .slice none 0 0, .slice none 0 0, .slice none 0 0, .slice none 0 0, .slice none 0 0, .slice none 0 0, .slice none 0 0, .slice none 0 0] 41 (0, 0))) (hB : B ≤ K) : IsBook w B K [] (fun k => k = K) :=
  ⟨.slice none 0 0, h, World.ownsRow_nil _ _ _ _, fun i hi => by simp at hi, fun i j hi => by simp at hi, by simp, fun h hh => by simp at hh, rfl, fun g hg => by simp [Value.ownBlock] at hg, fun g ⟨x, hx, _⟩ => by simp at hx, fun g e => by subst e; exact ⟨hB, blk_lt h⟩⟩

theorem bytes_any (B K : Nat) (hs : List Held) (fp : Nat → Prop) (w : World) (hb : IsBook w B K hs fp) (hB : B ≤ w.heap.size) (hn : hs.length < 900000) (a : Option Addr) (n c : Nat) (xs : List Value) (ho : w.ownsRow B 5 1 (.slice a n c) n xs) (hnf : ∀ g, (Value.slice a n c).ownBlock = some g → ¬ fp g) (hn9 : n ≤ 1000000000) :
    Calls Tryd.prog 10 #[.pointer (some ⟨K, 0, none⟩), .slice a n c] w fun e w' => e = .returned (.tuple #[]) ∧ ∃ fp', IsBook w' B K (hs ++ [⟨.slice a n c, n, .slice none 0 0, hs.length + 1⟩]) fp' ∧ (∀ k, fp' k → fp k ∨ (Value.slice a n c).ownBlock = some k ∨ w.heap.size ≤ k) ∧ Fr fp w w' := by
  obtain ⟨v, h⟩ := hb
  have HK := Lib.hid (keepByte_any B K hs.length (fB v) hs w h.at_ hB h.row (by omega) (by omega) a n c)
  go_enter Tryd.func10, Tryd.ntmps10
  go_wp2_with (go_at_call 20; refine HK.out.mono ?_; rintro e w' ⟨rfl, v', hat, hrow, hwh, hf⟩)
  go_end0
  have hfv : (fB v) 1 = v := rfl
  rw [hfv] at hwh hf
  have hF : Fr fp w w' := hf.mono (fun j e => .inl (e.elim (fun e => e ▸ h.fK) (h.fv j)))
  have ho' := hF.row ho hnf
  have hold : ∀ (i : Nat) (hi : i < hs.length), ∃ xs, w'.ownsRow B 5 1 hs[i].v hs[i].n xs := fun i hi => by
    obtain ⟨ys, hy⟩ := h.lists i hi
    refine ⟨ys, hf.row hy (fun g e he => ?_)⟩
    rcases he with rfl | he
    · exact row_ne hy h.at_ (by decide) g e rfl
    · rcases h.row.2 with ⟨e', _⟩ | ⟨g', _, _, e', _, hgg, _⟩
      · rw [e'] at he; simp [Value.ownBlock] at he
      · rw [e'] at he; simp [Value.ownBlock] at he; subst he
        exact row_ne hy hgg (by decide) g' e rfl
  refine ⟨rfl, fun k => fp k ∨ (Value.slice a n c).ownBlock = some k ∨ v'.ownBlock = some k, ⟨v', ?_, ?_, ?_, ?_, ?_, ?_, .inl h.fK, fun g hg => .inr (.inr hg), ?_, ?_⟩, ?_, hF⟩
  · have e : upd (fB v) 1 v' = fB v' := by funext j; simp only [fB, upd]; split <;> rfl
    rw [e] at hat
    rw [List.length_append]; exact hat
  · rw [List.length_append]; exact hrow
  · intro i hi
    by_cases hlt : i < hs.length
    · rw [List.getElem_append_left hlt]; exact hold i hlt
    · rw [List.getElem_append_right (by omega)]; simp only [List.getElem_singleton]; exact ⟨xs, ho'⟩
  · intro i j hi hj hij g hg hg'
    rw [List.length_append, List.length_singleton] at hi hj
    by_cases hi' : i < hs.length
    · rw [List.getElem_append_left hi'] at hg
      by_cases hj' : j < hs.length
      · rw [List.getElem_append_left hj'] at hg'
        exact h.apart i j hi' hj' hij g hg hg'
      · rw [List.getElem_append_right (by omega)] at hg'
        simp only [List.getElem_singleton] at hg'
        exact hnf g hg' (h.fl g (lblk_of hi' hg))
    · rw [List.getElem_append_right (by omega)] at hg
      simp only [List.getElem_singleton] at hg
      have hj' : j < hs.length := by omega
      rw [List.getElem_append_left hj'] at hg'
      exact hnf g hg (h.fl g (lblk_of hj' hg'))
  · rw [List.length_append, List.length_singleton]; omega
  · intro x hx
    rcases List.mem_append.1 hx with hx | hx
    · exact h.each x hx
    · obtain rfl := List.mem_singleton.1 hx
      exact ⟨rfl, by have := h.small; show hs.length + 1 ≤ _; omega, hn9⟩
  · rintro g ⟨x, hx, hg⟩
    rcases List.mem_append.1 hx with hx | hx
    · exact .inl (h.fl g ⟨x, hx, hg⟩)
    · obtain rfl := List.mem_singleton.1 hx
      exact .inr (.inl hg)
  · rintro g (hg | hg | hg)
    · exact ⟨(h.lt g hg).1, Nat.lt_of_lt_of_le (h.lt g hg).2 hF.size⟩
    · exact ho'.lt g hg
    · exact hrow.lt g hg
  · rintro g (hg | hg | hg)
    · exact .inl hg
    · exact .inr (.inl hg)
    · rcases hwh g hg with hg | hg
      · exact .inl (h.fv g hg)
      · exact .inr (.inr hg)

set_option maxRecDepth 20000 in
set_option maxHeartbeats 4000000 in
theorem apart_any (B K : Nat) (hs : List Held) (fp : Nat → Prop) (w : World) (hb : IsBook w B K hs fp) (hB : B ≤ w.heap.size) :
    Calls Tryd.prog 11 #[.pointer (some ⟨K, 0, none⟩)] w fun e w' => e = .returned (.bool true) ∧ Fr fp w w' := by
  obtain ⟨v, h⟩ := hb
  have hsm := h.small
  have hfv : (fB v) 1 = v := rfl
  have HF := Lib.hid (fillByte_any B K hs.length (fB v) hs w h.at_ h.row h.lists h.apart (fun x hx => by rw [(h.each x hx).1]; exact ⟨_, _, _, rfl⟩) (by omega) (fun x hx => ⟨(h.each x hx).2.1, by have := (h.each x hx).2.2; omega⟩))
  have H := Lib.hid h
  clear h
  go_enter Tryd.func11, Tryd.ntmps11
  go_wp2_with fail
  refine HF.out.mono ?_
  rintro e w1 ⟨rfl, hl1, hf1⟩
  have h := H.out
  have hK1 := hf1.blk h.at_ (h.lists.not h.at_ (by decide))
  have hK1 : BookAt w1 K hs.length (fB v) := hK1
  have hr1 : w1.ownsRow B 59 3 v hs.length (hcells hs) := hf1.row h.row (fun g hg hgl => by
    rcases h.row.2 with ⟨e, _⟩ | ⟨g', cap', cur', e, _, hgg, _⟩
    · rw [e] at hg; simp [Value.ownBlock] at hg
    · rw [e] at hg; simp [Value.ownBlock] at hg; subst hg
      exact h.lists.not hgg (by decide) hgl)
  have HG := Lib.hid (growByte_any B K hs.length (fB v) hs w1 hK1 (Nat.le_trans hB hf1.size) hr1 hl1 h.apart (fun x hx => by rw [(h.each x hx).1]; exact ⟨_, _, _, rfl⟩) (by omega) (fun x hx => (h.each x hx).2))
  have HL1 := Lib.hid hl1
  clear h hl1 hr1
  go_wp2_with (first | (go_at_call 22; refine (fillId_none K hs.length _ _ hK1 rfl).mono ?_; rintro e w' ⟨rfl, hw⟩; obtain rfl := hw) | (go_at_call 23; refine (fillInt_none K hs.length _ _ hK1 rfl).mono ?_; rintro e w' ⟨rfl, hw⟩; obtain rfl := hw) | (go_at_call 24; refine (fillText_none K hs.length _ _ hK1 rfl).mono ?_; rintro e w' ⟨rfl, hw⟩; obtain rfl := hw) | (go_at_call 25; refine (fillRow_none K hs.length _ _ hK1 rfl).mono ?_; rintro e w' ⟨rfl, hw⟩; obtain rfl := hw) | (go_at_call 26; refine (fillOp_none K hs.length _ _ hK1 rfl).mono ?_; rintro e w' ⟨rfl, hw⟩; obtain rfl := hw) | (go_at_call 27; refine (fillSpan_none K hs.length _ _ hK1 rfl).mono ?_; rintro e w' ⟨rfl, hw⟩; obtain rfl := hw) | (go_at_call 28; refine (fillChange_none K hs.length _ _ hK1 rfl).mono ?_; rintro e w' ⟨rfl, hw⟩; obtain rfl := hw) | (go_at_call 29; refine (fillResult_none K hs.length _ _ hK1 rfl).mono ?_; rintro e w' ⟨rfl, hw⟩; obtain rfl := hw) | (go_at_call 30; refine (fillMsg_none K hs.length _ _ hK1 rfl).mono ?_; rintro e w' ⟨rfl, hw⟩; obtain rfl := hw) | (go_at_call 31; refine (fillPart_none K hs.length _ _ hK1 rfl).mono ?_; rintro e w' ⟨rfl, hw⟩; obtain rfl := hw) | (go_at_call 32; refine (fillDeed_none K hs.length _ _ hK1 rfl).mono ?_; rintro e w' ⟨rfl, hw⟩; obtain rfl := hw) | fail)
  refine HG.out.mono ?_
  rintro e w2 ⟨rfl, hs', hlen, hK2, hr2, hl2, hf2⟩
  have HLK := Lib.hid (lookByte_any B w1.heap.size K hs.length (fB v) hs' w2 hK2 (by rw [hlen]; exact hr2) hl2 (by omega))
  have HR2 := Lib.hid hr2
  have HL2 := Lib.hid hl2
  clear hr2 hl2
  go_wp2_with (first | (go_at_call 34; refine (growId_none K hs.length _ _ hK2 rfl).mono ?_; rintro e w' ⟨rfl, hw⟩; obtain rfl := hw) | (go_at_call 35; refine (growInt_none K hs.length _ _ hK2 rfl).mono ?_; rintro e w' ⟨rfl, hw⟩; obtain rfl := hw) | (go_at_call 36; refine (growText_none K hs.length _ _ hK2 rfl).mono ?_; rintro e w' ⟨rfl, hw⟩; obtain rfl := hw) | (go_at_call 37; refine (growRow_none K hs.length _ _ hK2 rfl).mono ?_; rintro e w' ⟨rfl, hw⟩; obtain rfl := hw) | (go_at_call 38; refine (growOp_none K hs.length _ _ hK2 rfl).mono ?_; rintro e w' ⟨rfl, hw⟩; obtain rfl := hw) | (go_at_call 39; refine (growSpan_none K hs.length _ _ hK2 rfl).mono ?_; rintro e w' ⟨rfl, hw⟩; obtain rfl := hw) | (go_at_call 40; refine (growChange_none K hs.length _ _ hK2 rfl).mono ?_; rintro e w' ⟨rfl, hw⟩; obtain rfl := hw) | (go_at_call 41; refine (growResult_none K hs.length _ _ hK2 rfl).mono ?_; rintro e w' ⟨rfl, hw⟩; obtain rfl := hw) | (go_at_call 42; refine (growMsg_none K hs.length _ _ hK2 rfl).mono ?_; rintro e w' ⟨rfl, hw⟩; obtain rfl := hw) | (go_at_call 43; refine (growPart_none K hs.length _ _ hK2 rfl).mono ?_; rintro e w' ⟨rfl, hw⟩; obtain rfl := hw) | (go_at_call 44; refine (growDeed_none K hs.length _ _ hK2 rfl).mono ?_; rintro e w' ⟨rfl, hw⟩; obtain rfl := hw) | fail)
  refine HLK.out.mono ?_
  rintro e w3 ⟨rfl, hf3⟩
  have hK3 : BookAt w3 K hs.length (fB v) := hf3.blk hK2 (not_noBlk _)
  go_wp2_with (first | (go_at_call 46; refine (lookId_none K hs.length _ _ hK3 rfl).mono ?_; rintro e w' ⟨rfl, hw⟩; obtain rfl := hw) | (go_at_call 47; refine (lookInt_none K hs.length _ _ hK3 rfl).mono ?_; rintro e w' ⟨rfl, hw⟩; obtain rfl := hw) | (go_at_call 48; refine (lookText_none K hs.length _ _ hK3 rfl).mono ?_; rintro e w' ⟨rfl, hw⟩; obtain rfl := hw) | (go_at_call 49; refine (lookRow_none K hs.length _ _ hK3 rfl).mono ?_; rintro e w' ⟨rfl, hw⟩; obtain rfl := hw) | (go_at_call 50; refine (lookOp_none K hs.length _ _ hK3 rfl).mono ?_; rintro e w' ⟨rfl, hw⟩; obtain rfl := hw) | (go_at_call 51; refine (lookSpan_none K hs.length _ _ hK3 rfl).mono ?_; rintro e w' ⟨rfl, hw⟩; obtain rfl := hw) | (go_at_call 52; refine (lookChange_none K hs.length _ _ hK3 rfl).mono ?_; rintro e w' ⟨rfl, hw⟩; obtain rfl := hw) | (go_at_call 53; refine (lookResult_none K hs.length _ _ hK3 rfl).mono ?_; rintro e w' ⟨rfl, hw⟩; obtain rfl := hw) | (go_at_call 54; refine (lookMsg_none K hs.length _ _ hK3 rfl).mono ?_; rintro e w' ⟨rfl, hw⟩; obtain rfl := hw) | (go_at_call 55; refine (lookPart_none K hs.length _ _ hK3 rfl).mono ?_; rintro e w' ⟨rfl, hw⟩; obtain rfl := hw) | (go_at_call 56; refine (lookDeed_none K hs.length _ _ hK3 rfl).mono ?_; rintro e w' ⟨rfl, hw⟩; obtain rfl := hw) | fail)
  go_ret
  have h := H.out
  refine ⟨rfl, ?_⟩
  rw [hfv] at hf2
  exact ((hf1.mono (fun j e => .inl (h.fl j e))).trans hf2 (fun j e => .inl (e.elim (h.fl j) (h.fv j)))).trans hf3 (fun _ h => h.elim)
end Go.Proofs.YtanlgidliflepaaDoor
