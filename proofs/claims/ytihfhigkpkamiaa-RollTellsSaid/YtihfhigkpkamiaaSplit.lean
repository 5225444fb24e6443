/- THE WALK of roll.Split. -/
import Derived.Test.YtihfhigkpkamiaaSort
import Derived.Test.YtihfhigkpkamiaaRollo
import Derived.Test.YtihfhigkpkamiaaCloneB
import Derived.Test.YtihfhigkpkamiaaAppS
import Derived.Test.YtihfhigkpkamiaaRollp
namespace Go.Proofs.Ytihfhigkpkamiaa
open Go.RowKit Go.Own Go.Rl
theorem pick_len (is : List Int) (b : Bool) (os : List Piece) (k : Nat) : (Rl.pick is b os k).length ≤ k := by
  unfold Rl.pick
  rw [List.length_map]
  refine Nat.le_trans (List.length_filter_le ..) ?_
  rw [List.length_zipIdx, List.length_take]
  omega
theorem objs_snoc {w : World} {L : List HP} {v v3 : Value} {R : List Ob} {s a : Int} {bs : List Int} {p : Option Addr} {c : Nat} (he : v3 = .slice p bs.length c)
    (h : Has w (row v 31 3 (R.length + 1) (ocells R ++ [.int .i64 s, .int .i64 a, v3]) :: row v3 5 1 bs.length (bc bs) :: poolc 5 (opool R) :: L)) : Has w (Objs v (R.map (·.1) ++ [⟨s, a, bs⟩]) :: L) := by
  refine objs_iff.2 ⟨R ++ [(⟨s, a, bs⟩, v3)], by simp, ?_⟩
  have e1 : ocells R ++ [.int .i64 s, .int .i64 a, v3] = ocells (R ++ [((⟨s, a, bs⟩ : Piece), v3)]) := by rw [ocells_snoc]; rfl
  rw [e1] at h
  rw [List.length_append, List.length_singleton]
  have h7 := (Has.pool_snoc (v := v3) (xs := bs) (h.re 3 [1, 2, 0])).p1
  simp only [opool, List.map_append, List.map_cons, List.map_nil]
  exact h7
set_option maxRecDepth 100000 in
set_option maxHeartbeats 8000000 in
theorem rollSplit (v iv : Value) (R : List Ob) (is : List Int) (w : World) (L : List HP) (hn : R.length ≤ 100000) (hsm : ∀ k (hk : k < R.length), R[k].1.bytes.length ≤ 1000000000) (hR : ∀ w', Has w' L → RdO w' v R) (hi : ∀ w', Has w' L → Rd w' iv 1 is.length (ic is)) (hO : Has w L) :
    Calls Try.prog 13 #[v, iv] w fun e w' => ∃ a b, e = .returned (.tuple #[a, b]) ∧ Has w' (Objs a (pick is true (R.map (·.1)) R.length) :: Objs b (pick is false (R.map (·.1)) R.length) :: L) ∧ Keep w w' := by
  obtain ⟨vp, vc, rfl, hvc, hvl⟩ := (hR w hO).form
  obtain ⟨ip, ic', rfl, -⟩ := (hi w hO).form
  have HR := hid hR
  have HI := hid hi
  have HSM := hid hsm
  have HO0 := hid hO
  clear hR hi hsm hO
  go_enter Try.func13, Try.ntmps13
  go_wp2_with fail
  go_loopw [6, 7, 12] (fun a b i w' => ∃ k : Nat, k ≤ R.length ∧ i = .int .i64 k ∧ Hid (Has w' (Objs a (pick is true (R.map (·.1)) k) :: Objs b (pick is false (R.map (·.1)) k) :: L)) ∧ Hid (Keep w w')) (fun _ _ i _ => R.length - (intOf i).toNat)
  case atStart => exact ⟨0, by omega, rfl, hid (HO0.out.nil'.nil'), hid (Keep.refl w)⟩
  case round =>
    obtain ⟨k, hk, rfl, HO, HK⟩ := hrel
    by_cases hlt : k < R.length
    · obtain ⟨vg, vo, c', xp, xm, e, x0, x1, x2, x3, x4⟩ := (HR.out _ HO.out.drop.drop).at_ k hlt
      simp only [Value.slice.injEq, true_and] at e
      obtain ⟨rfl, rfl⟩ := e
      have hki : (k : Int) < (R.length : Int) := by omega
      obtain ⟨⟨⟨sc, ps, bs⟩, bv⟩, hq⟩ : ∃ q, R[k] = q := ⟨_, rfl⟩
      have HL := hid (HSM.out k hlt)
      rw [hq] at x0 x1 x2 x3 x4 HL
      simp only at x0 x1 x2 x3 x4
      subst x3
      have HB := hid (fun w' (h : Has w' L) => by have := (HR.out w' h).2 _ (List.getElem_mem hlt); rw [hq] at this; exact this : ∀ w', Has w' L → Rd w' (.slice xp bs.length xm) 1 bs.length (bc bs))
      have HS := hid (show ∀ b, pick is b (R.map (·.1)) (k + 1) = if is.contains (k : Int) == b then pick is b (R.map (·.1)) k ++ [⟨sc, ps, bs⟩] else pick is b (R.map (·.1)) k from fun b => by
        rw [pick_snoc _ _ _ k (by simpa using hlt), List.getElem_map, hq])
      go_wp2_with fail
      refine (cloneBytes (.slice xp bs.length xm) bs _ _ (HO.out.alloc (.cells #[.int .i64 sc, .int .i64 ps, .slice xp bs.length xm] 31)) ((HB.out _ HO.out.drop.drop).alloc _) HL.out).mono ?_
      rintro e w3 ⟨v3, rfl, hO3, hK3, -⟩
      have HO3 := hid hO3
      have HK3 := hid ((HK.out.alloc _).trans hK3)
      clear hO3 hK3 HO HK x0 x1 x2
      generalize wr.heap.size = bx at *
      obtain ⟨p3, c3, rfl, -⟩ := (Bytes.rd HO3.out).form
      have hc := HO3.out.p1.cells
      have ht := HO3.out.p1.thaw
      have HO4 := hid (show Has (w3.setCell ⟨bx, 2, none⟩ (.slice p3 bs.length c3)) (pt bx (.cells #[.int .i64 sc, .int .i64 ps, .slice p3 bs.length c3] 31) :: Bytes (.slice p3 bs.length c3) bs :: Objs u6 (pick is true (R.map (·.1)) k) :: Objs u7 (pick is false (R.map (·.1)) k) :: L) from HO3.out.p1.set 2 (.slice p3 bs.length c3))
      have HK4 := hid (HK3.out.set ⟨bx, 2, none⟩ (.slice p3 bs.length c3))
      go_wp2_with fail
      clear hc ht HO3 HK3
      generalize w3.setCell ⟨bx, 2, none⟩ (.slice p3 bs.length c3) = w4 at *
      refine (containsInt _ is k w4 (HI.out w4 (HO4.out.re 4 []))).mono ?_
      rintro e w5 ⟨rfl, h5⟩
      subst h5
      have hc := HO4.out.cells
      have HT1 := hid (HS.out true)
      have HT2 := hid (HS.out false)
      clear HS
      try dsimp only
      cases hcon : is.contains (k : Int)
      · rw [hcon] at HT1 HT2
        clear hcon
        obtain ⟨Rb, hRb, hb⟩ := objs_iff.1 HO4.out.p3
        have HRb := hid hRb
        have hlb : Rb.length ≤ 100000 := by
          have := congrArg List.length hRb
          have h2 := pick_len is false (R.map (·.1)) k
          rw [List.length_map] at this
          omega
        have HB5 := hid (hb.alloc (.cells #[.int .i64 sc, .int .i64 ps, .slice p3 bs.length c3] 31)).p1
        clear hb hRb
        go_wp2_with (at_builtin; refine wpList_appendS rfl _ _ _ rfl Try.underlying23 infoObj rfl [.int .i64 sc, .int .i64 ps, .slice p3 bs.length c3] rfl HB5.out rfl 1 _ rfl (fun j => by simp) (by simp [Value.oneCell']) (le_maxLen (by omega)) (by omega) ?_)
        intro v6 w6 h6 hk6
        have HO6 := hid (objs_snoc rfl (h6.re 6 [0, 4, 2, 5]))
        have HK6 := hid ((HK4.out.alloc _).trans hk6)
        clear h6 hk6 HB5 HO4 HK4 hc
        rw [HRb.out] at HO6
        go_wp2_with fail
        refine ⟨⟨k + 1, by omega, rfl, hid ?_, HK6⟩, by simp [intOf]; omega⟩
        rw [HT1.out, HT2.out]
        exact HO6.out.p1
      · rw [hcon] at HT1 HT2
        clear hcon
        obtain ⟨Rb, hRb, hb⟩ := objs_iff.1 HO4.out.p2
        have HRb := hid hRb
        have hlb : Rb.length ≤ 100000 := by
          have := congrArg List.length hRb
          have h2 := pick_len is true (R.map (·.1)) k
          rw [List.length_map] at this
          omega
        have HB5 := hid (hb.alloc (.cells #[.int .i64 sc, .int .i64 ps, .slice p3 bs.length c3] 31)).p1
        clear hb hRb
        go_wp2_with (at_builtin; refine wpList_appendS rfl _ _ _ rfl Try.underlying23 infoObj rfl [.int .i64 sc, .int .i64 ps, .slice p3 bs.length c3] rfl HB5.out rfl 1 _ rfl (fun j => by simp) (by simp [Value.oneCell']) (le_maxLen (by omega)) (by omega) ?_)
        intro v6 w6 h6 hk6
        have HO6 := hid (objs_snoc rfl (h6.re 6 [0, 4, 2, 5]))
        have HK6 := hid ((HK4.out.alloc _).trans hk6)
        clear h6 hk6 HB5 HO4 HK4 hc
        rw [HRb.out] at HO6
        go_wp2_with fail
        refine ⟨⟨k + 1, by omega, rfl, hid ?_, HK6⟩, by simp [intOf]; omega⟩
        rw [HT1.out, HT2.out]
        exact HO6.out
    · have hki : ¬ (k : Int) < (R.length : Int) := by omega
      obtain rfl : k = R.length := by omega
      go_wp2_with fail
      go_ret2
      exact ⟨_, _, rfl, HO.out, HK.out⟩
end Go.Proofs.Ytihfhigkpkamiaa
