/- append to a row of one's own, that tells whether it lies where it lay; a list that shares its block stays. Conditions: none. -/
import Derived.Test.YtanlgidliflepaaDoorBkDef
namespace Go.Proofs.YtanlgidliflepaaDoor
open Go.RowKit
section
variable {P : Program}
/-- append: the answer lies in the old block, with its room; or in a new one, and nothing that was there has turned. -/
theorem run_append_two (w : World) (base : Nat) (t ty e : TypeId) (i : TypeInfo) (z : Value) (size bytes : Nat) (ht : P.underlying t = some (.slice e)) (hi : P.info? e = some i) (hz : i.zero = some z)
    (hsize : i.size = size) (hby : i.bytes = bytes) (hzs : z.cells.size = size) (hsz : 0 < size)
    (v : Value) (n : Nat) (xs : List Value) (hown : w.ownsRow base e size v n xs)
    (a : Addr) (m c : Nat) (news : List Value) (hl : news.length = m * size) (hnews : ∀ j u, news[j]? = some u → w.cell? (a.add j) = some u) (h1 : ∀ u ∈ news, u.oneCell' = true)
    (h63 : n + m ≤ maxLen) (hbytes : (n + m) * bytes ≤ 140737488355328) (hbase : base ≤ w.heap.size) (hm : 0 < m) :
    ∃ v' w', (Builtin.append_ #[t, t] ty #[v, .slice (some a) m c]).run P w = .ok v' w' ∧ w'.ownsRow base e size v' (n + m) (xs ++ news) ∧ w.grownBy w' v.ownBlock ∧
      ((∃ g cap, v = .slice (some ⟨g, 0, none⟩) n cap ∧ v' = .slice (some ⟨g, 0, none⟩) (n + m) cap) ∨ (Fr noBlk w w' ∧ v'.ownBlock = some w.heap.size)) := by
  obtain ⟨v', w', hr, h2, h3, h4⟩ := run_append_own (P := P) w base t ty e i z size bytes ht hi hz hsize hby hzs hsz v n xs hown a m c news hl hnews h1 h63 hbytes hbase
  refine ⟨v', w', hr, h2, h3, ?_⟩
  subst hsize
  subst hby
  have hsmall : n + m ≤ 9223372036854775807 := by simp only [maxLen] at h63; omega
  rcases hown.2 with ⟨rfl, rfl⟩ | ⟨g, cap, cur, rfl, hbg, hg, hnc, hcm, hcs, htake⟩
  · have hr' := run_append_nil (P := P) w t ty e i z ht hi hz a m c news hl hnews (by omega) (by omega) (by have hb := hbytes; simp only [Nat.zero_add] at hb; omega)
    rw [hr] at hr'
    cases hr'
    exact .inr ⟨(Fr.grown h3).mono (fun j hj => by simp [Value.ownBlock] at hj), rfl⟩
  · by_cases hroom : n + m ≤ cap
    · have hfit : n * i.size + news.length ≤ cur.size := by rw [hl, hcs, ← Nat.add_mul]; exact Nat.mul_le_mul_right _ hroom
      have hr' := run_append_room (P := P) w t ty e i ht hi g n cap cur hg a m c news hl hnews h1 hroom hfit
      rw [hr] at hr'
      cases hr'
      exact .inl ⟨g, cap, rfl, rfl⟩
    · have holds : ∀ j u, xs[j]? = some u → w.cell? ((⟨g, 0, none⟩ : Addr).add j) = some u := hown.cells (g := g) rfl
      have hr' := run_append_grow (P := P) w t ty e i z ht hi hz ⟨g, 0, none⟩ n cap xs hown.1 holds a m c news hl hnews (by omega) (by omega) (growslice_fits (by omega) hbytes)
      rw [hr] at hr'
      cases hr'
      exact .inr ⟨(Fr.drew _).trans (Fr.alloc _ _) (fun _ h => h.elim), rfl⟩

theorem wp_append_two {o : Oper} {a : Act} {w : World} {K : Act → World → Prop} {Q : Exit → Act → World → Prop} (s x : Operand) (t : TypeId)
    (ho : o.op = .call { callee := .builtin .append, args := #[s, x], argTypes := #[t, t] })
    (base : Nat) (e : TypeId) (i : TypeInfo) (z : Value) (size bytes : Nat) (ht : P.underlying t = some (.slice e)) (hi : P.info? e = some i) (hz : i.zero = some z)
    (hsize : i.size = size) (hby : i.bytes = bytes) (hzs : z.cells.size = size) (hsz : 0 < size)
    (v : Value) (n : Nat) (xs : List Value) (hs : a.eval s = v) (hown : w.ownsRow base e size v n xs)
    (ad : Addr) (m c : Nat) (news : List Value) (hx : a.eval x = .slice (some ad) m c) (hl : news.length = m * size) (hnews : ∀ j u, news[j]? = some u → w.cell? (ad.add j) = some u) (h1 : ∀ u ∈ news, u.oneCell' = true)
    (h63 : n + m ≤ maxLen) (hbytes : (n + m) * bytes ≤ 140737488355328) (hbase : base ≤ w.heap.size) (hm : 0 < m)
    (h : ∀ v' w', w'.ownsRow base e size v' (n + m) (xs ++ news) → w.grownBy w' v.ownBlock → ((∃ g cap, v = .slice (some ⟨g, 0, none⟩) n cap ∧ v' = .slice (some ⟨g, 0, none⟩) (n + m) cap) ∨ (Fr noBlk w w' ∧ v'.ownBlock = some w.heap.size)) → K (a.put o.dst v') w') : o.wp P a w K Q := by
  obtain ⟨v', w', hr, h2, h3, h4⟩ := run_append_two (P := P) w base t o.type e i z size bytes ht hi hz hsize hby hzs hsz v n xs hown ad m c news hl hnews h1 h63 hbytes hbase hm
  unfold Oper.wp execOp
  simp only [ho, resolve, invoke, builtin, Sem.run_bind, Sem.run_pure, Result.andThen_ok, List.map_toArray, List.map_cons, List.map_nil, hs, hx, hr]
  exact h v' w' h2 h3 h4
theorem wpList_append_two {ops : Array Oper} {rest : List Oper} {o : Oper} {a : Act} {w : World} {Q : Exit → Act → World → Prop} (hgd : o.guard = none) (s x : Operand) (t : TypeId)
    (ho : o.op = .call { callee := .builtin .append, args := #[s, x], argTypes := #[t, t] })
    (base : Nat) (e : TypeId) (i : TypeInfo) (z : Value) (size bytes : Nat) (ht : P.underlying t = some (.slice e)) (hi : P.info? e = some i) (hz : i.zero = some z)
    (hsize : i.size = size) (hby : i.bytes = bytes) (hzs : z.cells.size = size) (hsz : 0 < size)
    (v : Value) (n : Nat) (xs : List Value) (hs : a.eval s = v) (hown : w.ownsRow base e size v n xs)
    (ad : Addr) (m c : Nat) (news : List Value) (hx : a.eval x = .slice (some ad) m c) (hl : news.length = m * size) (hnews : ∀ j u, news[j]? = some u → w.cell? (ad.add j) = some u) (h1 : ∀ u ∈ news, u.oneCell' = true)
    (h63 : n + m ≤ maxLen) (hbytes : (n + m) * bytes ≤ 140737488355328) (hbase : base ≤ w.heap.size) (hm : 0 < m)
    (h : ∀ v' w', w'.ownsRow base e size v' (n + m) (xs ++ news) → w.grownBy w' v.ownBlock → ((∃ g cap, v = .slice (some ⟨g, 0, none⟩) n cap ∧ v' = .slice (some ⟨g, 0, none⟩) (n + m) cap) ∨ (Fr noBlk w w' ∧ v'.ownBlock = some w.heap.size)) → wpList P ops Q rest (a.put o.dst v') w') : wpList P ops Q (o :: rest) a w :=
  wpList_plain hgd fun _ hK => wp_append_two s x t ho base e i z size bytes ht hi hz hsize hby hzs hsz v n xs hs hown ad m c news hx hl hnews h1 h63 hbytes hbase hm fun v' w' h2 h3 h4 => hK _ _ (h v' w' h2 h3 h4)
end

/-- The head of a row is a row. -/
theorem row_prefix {w : World} {B e size N n g c : Nat} {xs : List Value} (h : w.ownsRow B e size (.slice (some ⟨g, 0, none⟩) N c) N xs) (hn : n ≤ N) : w.ownsRow B e size (.slice (some ⟨g, 0, none⟩) n c) n (xs.take (n * size)) := by
  rcases h with ⟨hl, ⟨e', _⟩ | ⟨g', cap', cur', e', hb, hg', h1, h2, hs, ht⟩⟩
  · cases e'
  · cases e'
    have hle : n * size ≤ N * size := Nat.mul_le_mul_right _ hn
    refine ⟨by rw [List.length_take, hl]; omega, .inr ⟨g, c, cur', rfl, hb, hg', by omega, h2, hs, ?_⟩⟩
    rw [← ht, List.take_take, Nat.min_eq_left hle]
/-- What append does to a list in whose block it may write, behind it. -/
theorem append_keeps {w w' : World} {B e N n m : Nat} {q : List Value} {v lv lv' : Value} {xs ys : List Value} (hv : w.ownsRow B e 1 v n xs) (hlv : w.ownsRow B e 1 lv N ys) (hN : n ≤ N) (hys : ys.take n = xs)
    (hown : w'.ownsRow B e 1 lv' (N + m) (ys ++ q)) (hg : w.grownBy w' lv.ownBlock) (hc : (∃ g cap, lv = .slice (some ⟨g, 0, none⟩) N cap ∧ lv' = .slice (some ⟨g, 0, none⟩) (N + m) cap) ∨ Fr noBlk w w') : w'.ownsRow B e 1 v n xs := by
  rcases hc with ⟨g, cap, rfl, rfl⟩ | hf
  · by_cases hb : v.ownBlock = some g
    · obtain ⟨a, c, rfl, _⟩ := row_slice hv
      obtain rfl : a = some ⟨g, 0, none⟩ := by
        rcases hv.2 with ⟨e', _⟩ | ⟨g', _, _, e', _⟩
        · rw [e'] at hb; simp [Value.ownBlock] at hb
        · rw [e'] at hb; simp [Value.ownBlock] at hb; subst hb; cases e'; rfl
      obtain ⟨cur, h1, _, h3, _, _⟩ := row_open hv
      obtain ⟨cur', h1', _, h3', _, _⟩ := row_open hlv
      rw [h1] at h1'
      obtain rfl : cur = cur' := by simp at h1'; exact h1'
      obtain rfl : c = cap := by omega
      have hp := row_prefix hown (show n ≤ N + m by omega)
      have hl : ys.length = N := by have := hlv.1; omega
      rw [Nat.mul_one, List.take_append_of_le_length (by omega), hys] at hp
      exact hp
    · exact (Fr.grown hg).row hv (fun g' hg' e' => by simp [Value.ownBlock] at e'; subst e'; exact hb hg')
  · exact hf.row hv (fun _ _ => not_noBlk _)
end Go.Proofs.YtanlgidliflepaaDoor
