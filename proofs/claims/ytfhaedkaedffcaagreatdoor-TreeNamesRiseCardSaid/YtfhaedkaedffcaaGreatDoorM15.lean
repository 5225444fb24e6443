/- TEXTS of mine, merged. -/
import Derived.Test.YtfhaedkaedffcaaGreatDoorM14
import Derived.Test.YtfhaedkaedffcaaGreatDoorM1
import Derived.Laws.CopyOwn
import Derived.Laws.IdiomCopy
/- WHAT EVERY TREE KEEPS: kept by each operation. No program in sight. -/
namespace Go.Proofs.YtfhaedkaedffcaaGreatDoor
open Go.RowKit Go.Own
variable {S : Tre} {rk : Int → Nat} {k : Nat}
theorem Gd.mkdir (h : Gd S rk k) (p : Str) : ∃ rk', Gd (S.mkdir p).2 rk' (k + 1) := by
  unfold Tre.mkdir
  dsimp only
  split
  · exact ⟨rk, h.mono (Nat.le_succ k)⟩
  · rename_i h0
    obtain ⟨h1, h2, h3⟩ := fresh_place (Classical.not_not.1 h0)
    rw [h3]
    exact ⟨_, h.make (h.place_ok p h1) h2 2 (.inr (.inl rfl)) [] (by simp)⟩
end Go.Proofs.YtfhaedkaedffcaaGreatDoor
/- 'copy' into a row that is owned, elements of one cell. No program in sight. -/
namespace Go.Own
open Go.RowKit
section
variable {w : World} {l : List HP} {e : TypeId} {n cap g off m : Nat} {xs ys : List Value}
theorem Has.copyRun {P : Program} (hO : Has w (row (.slice (some ⟨g, 0, none⟩) n cap) e 1 n xs :: l)) (dT sT ty : TypeId) (hu : P.underlying dT = some (.slice e)) (hsz : (P.info? e).map (·.size) = some 1)
    (dn dc c : Nat) (sp : Option Addr) (hr : Rd w (.slice sp m c) 1 m ys) (h1 : ∀ u ∈ ys, u.oneCell' = true) (hfit : off + min m dn ≤ n) :
    ∃ w', (Builtin.copy_ #[dT, sT] ty #[.slice (some ⟨g, off, none⟩) dn dc, .slice sp m c]).run P w = .ok (goInt ((min m dn : Nat) : Int)) w' ∧ Has w' (row (.slice (some ⟨g, 0, none⟩) n cap) e 1 n (xs.take off ++ ys.take (min m dn) ++ xs.drop (off + min m dn)) :: l) ∧ Keep w w' := by
  obtain ⟨hxl, h | ⟨g', cap', cur, e1, h2, h3, h4, h5, hp⟩⟩ := hO.row_cases
  · exact absurd h.1 (by simp)
  simp only [Value.slice.injEq, Option.some.injEq, Addr.mk.injEq] at e1
  obtain ⟨⟨rfl, -, -⟩, -, rfl⟩ := e1
  obtain ⟨hyl, -, p, cap2, e2, -, hcs⟩ := hr
  cases e2
  rw [Nat.mul_one] at hyl h4 h5 hxl
  by_cases hz : min m dn = 0
  · refine ⟨w, ?_, ?_, Keep.refl w⟩
    · have := run_copy_none (P := P) w dT sT ty e (some ⟨g, off, none⟩) sp dn dc m c hu hsz hz
      rw [hz]; exact this
    · rw [hz]; simpa using hO
  · obtain ⟨g2, o2, rfl, hc2⟩ := hcs (by omega)
    have hl : (ys.take (min m dn)).length = Nat.min m dn := by rw [List.length_take, hyl]; show min (min m dn) m = min m dn; omega
    have hr := run_copy_row (P := P) w dT sT ty e g off dn dc ⟨g2, o2, none⟩ m c cur e (ys.take (min m dn)) hu hsz hp.lookup hl (by
      intro j v hj
      have hjl : j < (ys.take (min m dn)).length := (List.getElem?_eq_some_iff.1 hj).1
      rw [hl] at hjl
      have hjm : j < min m dn := hjl
      rw [List.getElem?_take, if_pos hjm] at hj
      rw [add_plain, hc2 j (by omega), hj]) (by rw [hl]; show off + min m dn ≤ _; omega) (fun v hv => h1 v (List.mem_of_mem_take hv))
    refine ⟨w.setRow g (cur.toList.take off ++ ys.take (min m dn) ++ cur.toList.drop (off + min m dn)).toArray, by rw [hr, hl], ?_, ⟨rfl, rfl, rfl, by simp [World.setRow]⟩⟩
    refine (hp.turn (fun k _ hk => setRow_other w g k _ hk) (setRow_heap w g cur _ e _ hp.lookup)).row_of h2 h3 ?_ ?_ ?_
    · simp only [List.size_toArray, List.length_append, List.length_take, List.length_drop, Array.length_toList]; omega
    · rw [Nat.mul_one]
      show (cur.toList.take off ++ ys.take (min m dn) ++ cur.toList.drop (off + min m dn)).take n = _
      have hcl : n ≤ cur.toList.length := by simp; omega
      have hA : (cur.toList.take off ++ ys.take (min m dn)).length = off + min m dn := by
        simp only [List.length_append, List.length_take]
        omega
      rw [List.take_append, List.take_of_length_le (by rw [hA]; exact hfit), hA, ← h5, List.take_take, Nat.min_eq_left (show off ≤ n by omega), List.drop_take]
    · simp only [List.length_append, List.length_take, List.length_drop]; omega
theorem wp_copy {P : Program} {o : Oper} {a : Act} {K : Act → World → Prop} {Q : Exit → Act → World → Prop} (d s : Operand) (dT sT : TypeId)
    (ho : o.op = .call { callee := .builtin .copy, args := #[d, s], argTypes := #[dT, sT] }) (hu : P.underlying dT = some (.slice e)) (hsz : (P.info? e).map (·.size) = some 1)
    (hO : Has w (row (.slice (some ⟨g, 0, none⟩) n cap) e 1 n xs :: l)) (dn dc c : Nat) (sp : Option Addr) (hd : a.eval d = .slice (some ⟨g, off, none⟩) dn dc) (hs : a.eval s = .slice sp m c)
    (hr : Rd w (.slice sp m c) 1 m ys) (h1 : ∀ u ∈ ys, u.oneCell' = true) (hfit : off + min m dn ≤ n)
    (h : ∀ w', Has w' (row (.slice (some ⟨g, 0, none⟩) n cap) e 1 n (xs.take off ++ ys.take (min m dn) ++ xs.drop (off + min m dn)) :: l) → Keep w w' → K (a.put o.dst (goInt ((min m dn : Nat) : Int))) w') : o.wp P a w K Q := by
  obtain ⟨w', hrun, h2, h3⟩ := hO.copyRun (P := P) dT sT o.type hu hsz dn dc c sp hr h1 hfit
  unfold Oper.wp execOp
  simp only [ho, resolve, invoke, builtin, Sem.run_bind, Sem.run_pure, Result.andThen_ok, List.map_toArray, List.map_cons, List.map_nil, hd, hs, hrun]
  exact h w' h2 h3
end
end Go.Own
