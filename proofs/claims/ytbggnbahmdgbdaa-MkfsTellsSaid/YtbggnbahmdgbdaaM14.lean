/- TEXTS of mine, merged. -/
import Derived.Test.YtbggnbahmdgbdaaM13
import Derived.Test.YtbggnbahmdgbdaaM8
import Derived.Test.YtbggnbahmdgbdaaM5
import Derived.Test.YtbggnbahmdgbdaaM6
import Derived.Test.YtbggnbahmdgbdaaM3
/- THE PLAIN LAW of DiskFirm: the disk behind k writes, some of them flushed. -/
namespace Go.Proofs.Ytbggnbahmdgbdaa
open Go.RowKit Go.Own Go.Dk
/-- The bit that says of a flush. -/
def bitOf (fl : Int) (j : Nat) : Bool := bits BinOp.and IntKind.i64 (fl / 2 ^ j) 1 == 1
/-- The disk behind k writes; bs says behind which there is a flush. -/
def firmD (q : Nat) (xs : List Int) (bs : Nat → Bool) : Nat → Bk
  | 0 => Bk.zero q
  | k + 1 => if bs k then (((firmD q xs bs k).write (low (nth xs k) q) (fill (k : Int) 128)).2.flush).2 else ((firmD q xs bs k).write (low (nth xs k) q) (fill (k : Int) 128)).2
def firmN (bs : Nat → Bool) : Nat → Nat
  | 0 => 0
  | k + 1 => if bs k then firmN bs k + 1 else firmN bs k
theorem firmN_succ (bs : Nat → Bool) (k : Nat) : firmN bs (k + 1) = if bs k then firmN bs k + 1 else firmN bs k := rfl
theorem firmN_le (bs : Nat → Bool) (k : Nat) : firmN bs k ≤ k := by
  induction k with
  | zero => exact Nat.le_refl _
  | succ k ih => unfold firmN; split <;> omega
structure FirmOk (q : Nat) (D : Bk) (k f : Nat) : Prop where
  on : D.on = true
  armed : D.armed = none
  len : D.firm.length = q
  waits : D.waits.length ≤ k
  at_ : ∀ x ∈ D.waits, 0 ≤ x.1 ∧ x.1 < q
  writes : D.writes.length = k
  flushes : D.flushes = f
theorem FirmOk.write {q : Nat} {D : Bk} {k f : Nat} (h : FirmOk q D k f) (a : Int) (h0 : 0 ≤ a) (h1 : a < q) (t : List Int) (ht : t.length = 128) :
    D.write a t = (0, { D with waits := D.waits ++ [(a, t)], writes := D.writes ++ [a] }) ∧ FirmOk q (D.write a t).2 (k + 1) f := by
  have e := Bk.write_ok h.on h.armed h0 (by rw [h.len]; exact h1) ht
  refine ⟨e, ?_⟩
  rw [e]
  refine ⟨h.on, h.armed, h.len, ?_, ?_, ?_, h.flushes⟩
  · have := h.waits; simp; omega
  · intro x hx
    rcases List.mem_append.1 hx with hx | hx
    · exact h.at_ x hx
    · rw [List.mem_singleton.1 hx]; exact ⟨h0, h1⟩
  · have := h.writes; simp; omega
theorem FirmOk.flush {q : Nat} {D : Bk} {k f : Nat} (h : FirmOk q D k f) : D.flush = (0, { D with firm := blayAll D.firm D.waits, waits := [], flushes := D.flushes + 1 }) ∧ FirmOk q D.flush.2 k (f + 1) := by
  have e := Bk.flush_ok h.on h.armed
  refine ⟨e, ?_⟩
  rw [e]
  exact ⟨h.on, h.armed, by rw [blayAll_len]; exact h.len, by simp, by simp, h.writes, by rw [h.flushes]; simp⟩
theorem firmD_ok (q : Nat) (hq : 1 ≤ q) (xs : List Int) (bs : Nat → Bool) (k : Nat) : FirmOk q (firmD q xs bs k) k (firmN bs k) := by
  induction k with
  | zero => exact ⟨rfl, rfl, by simp [firmD, Bk.zero], by simp [firmD, Bk.zero], by simp [firmD, Bk.zero], rfl, rfl⟩
  | succ k ih =>
    have h := (ih.write _ (low_in (nth xs k) q (by omega)).1 (low_in (nth xs k) q (by omega)).2 (fill (k : Int) 128) (fill128 _)).2
    unfold firmD firmN
    split
    · exact h.flush.2
    · exact h
/-- What is read is what all the writes left. -/
theorem last_lay (F : List (List Int)) (W : List (Int × List Int)) (on : Bool) (ar : Option (Int × List Bool)) (ws : List Int) (fl : Int) (hW : ∀ x ∈ W, 0 ≤ x.1 ∧ x.1 < F.length) (a : Nat) (ha : a < F.length) :
    (Bk.mk F W on ar ws fl).last (a : Int) = (blayAll F W).getD a [] := by
  have key : ∀ n (W : List (Int × List Int)), W.length = n → (∀ x ∈ W, 0 ≤ x.1 ∧ x.1 < F.length) → (Bk.mk F W on ar ws fl).last (a : Int) = (blayAll F W).getD a [] := by
    intro n
    induction n with
    | zero =>
      intro W h _
      rw [List.eq_nil_of_length_eq_zero h, Bk.last_firm rfl]
      rfl
    | succ n ih =>
      intro W h hW
      obtain ⟨W', x, rfl⟩ : ∃ W' x, W = W' ++ [x] := ⟨W.dropLast, W.getLast (by intro e; simp [e] at h), (List.dropLast_concat_getLast _).symm⟩
      have h1 := ih W' (by simpa using h) (fun y hy => hW y (by simp [hy]))
      have hx := hW x (by simp)
      rw [Bk.last_snoc, blayAll_snoc, h1]
      unfold blay
      by_cases e : x.1 = (a : Int)
      · rw [if_pos e, e]
        have : a < (blayAll F W').length := by rw [blayAll_len]; exact ha
        simp [this]
      · rw [if_neg e]
        have : x.1.toNat ≠ a := by omega
        simp [List.getElem?_set_ne this]
  exact key _ W rfl hW
theorem FirmOk.last {q : Nat} {D : Bk} {k f : Nat} (h : FirmOk q D k f) (a : Nat) (ha : a < q) : D.read (a : Int) = (0, (blayAll D.firm D.waits).getD a []) := by
  rw [Bk.read_ok h.on (by omega) (by rw [h.len]; omega)]
  obtain ⟨F, W, on, ar, ws, fl⟩ := D
  rw [last_lay F W on ar ws fl (fun x hx => by rw [h.len]; exact h.at_ x hx) a (by rw [h.len]; exact ha)]
end Go.Proofs.Ytbggnbahmdgbdaa
/- THE WALK of mkfs.Format on a disk. -/
namespace Go.Proofs.Ytbggnbahmdgbdaa
open Go.RowKit Go.Own Go.Sl Go.Gm Go.Dk
theorem img_128 {g : Geo} (h : may g = true) {j : Nat} {x : List Int} (hx : (imgL g)[j]? = some x) : x.length = 128 := by
  obtain ⟨n, m, b, H⟩ := gn_of h
  have hl : j < (imgL g).length := (List.getElem?_eq_some_iff.1 hx).1
  rw [imgL_len, H.sectors] at hl
  by_cases h0 : j = 0
  · subst h0
    rw [img_0 h] at hx
    rw [← Option.some.inj hx]
    exact sealL_len (by show 8 ≤ 123; omega)
  · by_cases h1 : j = 1
    · subst h1
      rw [img_1 h] at hx
      rw [← Option.some.inj hx]
      exact sealL_len (by simp [zs])
    · have hl0 : 0 < 1 + m + b := by omega
      have hk : (j - 2) / (1 + m + b) < n := (Nat.div_lt_iff_lt_mul hl0).2 (by omega)
      have := img_r H hk (Nat.mod_lt (j - 2) hl0)
      rw [Nat.div_add_mod' (j - 2) (1 + m + b), show 2 + (j - 2) = j by omega, hx] at this
      rw [Option.some.inj this, secR]
      split
      · exact sealL_len (by
          have h1 := nodes_len h ((j - 2) / (1 + m + b))
          have h2 := blks_len h
          rw [groupB_len h1.2 h2.2]; omega)
      · split
        · exact sealL_len (by rw [List.length_append, inoB_len]; simp [zs])
        · simp [zs]
theorem lay_step {T Z : List (List Int)} {i : Nat} {t : List Int} (h : T[i]? = some t) (hz : Z.length = T.length) : (T.take i ++ Z.drop i).set i t = T.take (i + 1) ++ Z.drop (i + 1) := by
  obtain ⟨hi, rfl⟩ := List.getElem?_eq_some_iff.1 h
  rw [List.set_append_right _ _ (by rw [List.length_take]; omega), List.length_take, Nat.min_eq_left (by omega), Nat.sub_self, List.drop_eq_getElem_cons (by omega), List.set_cons_zero, List.take_succ_eq_append_getElem hi, List.append_assoc]
  rfl
section
variable (d : Nat) (E : Bk) (g : Geo) (w : World) (L : List HP) (hO : Has w (Dk d E :: L))
include hO
set_option maxRecDepth 100000 in
set_option maxHeartbeats 4000000 in
theorem fmtOff (hon : E.on = false) : Calls Try.prog 20 #[.pointer (some ⟨d, 0, none⟩), geoV g] w fun e w' => e = .returned (.int .i64 4) ∧ Has w' (Dk d E :: L) ∧ Keep w w' := by
  have HO := hid (hO.alloc (.cells (gcell g) 24)).p1
  have HK := hid ((Keep.refl w).alloc (.cells (gcell g) 24))
  have HON := hid (kOn d E _ _ HO.out)
  rw [hon] at HON
  clear hO hon
  unfold geoV at *
  go_enter Try.func20, Try.ntmps20
  go_wp2_with fail
  refine (HON.out).mono ?_
  rintro e w' ⟨rfl, rfl⟩
  try dsimp only
  go_wp2_with fail
  go_ret
  exact ⟨rfl, HO.out.p1.drop, HK.out⟩
set_option maxRecDepth 100000 in
set_option maxHeartbeats 4000000 in
theorem fmtNot (hon : E.on = true) (hm : may g = false) : Calls Try.prog 20 #[.pointer (some ⟨d, 0, none⟩), geoV g] w fun e w' => e = .returned (.int .i64 2) ∧ Has w' (Dk d E :: L) ∧ Keep w w' := by
  have HO := hid (hO.alloc (.cells (gcell g) 24))
  have HK := hid ((Keep.refl w).alloc (.cells (gcell g) 24))
  have HON := hid (kOn d E _ _ HO.out.p1)
  have HM := hid (fun w' L (h : Has w' L) => gMay g w' L h)
  have hc := (hO.alloc (.cells (gcell g) 24)).cells
  rw [hon] at HON
  rw [hm] at HM
  clear hO hon hm
  unfold geoV at *
  go_enter Try.func20, Try.ntmps20
  go_wp2_with fail
  refine (HON.out).mono ?_
  rintro e w' ⟨rfl, rfl⟩
  try dsimp only
  go_wp2_with fail
  refine (HM.out _ _ HO.out).mono ?_
  rintro e w2 ⟨rfl, hO2, hK2⟩
  have HO2 := hid hO2
  have HK2 := hid ((HK.out).trans hK2)
  clear hO2 hK2
  try dsimp only
  go_wp2_with fail
  go_ret
  exact ⟨rfl, HO2.out.drop, HK2.out⟩
set_option maxRecDepth 100000 in
set_option maxHeartbeats 4000000 in
theorem fmtLen (hon : E.on = true) (hm : may g = true) (hn : sectors g ≠ (E.firm.length : Int)) : Calls Try.prog 20 #[.pointer (some ⟨d, 0, none⟩), geoV g] w fun e w' => e = .returned (.int .i64 2) ∧ Has w' (Dk d E :: L) ∧ Keep w w' := by
  have HO := hid (hO.alloc (.cells (gcell g) 24))
  have HK := hid ((Keep.refl w).alloc (.cells (gcell g) 24))
  have HON := hid (kOn d E _ _ HO.out.p1)
  have HM := hid (fun w' L (h : Has w' L) => gMay g w' L h)
  have HSC := hid (fun w' L (h : Has w' L) => gSectors g w' L h)
  have hc := (hO.alloc (.cells (gcell g) 24)).cells
  rw [hon] at HON
  rw [hm] at HM
  have hne : (sectors g != (E.firm.length : Int)) = true := by simpa using hn
  have hne2 : ¬ sectors g = (E.firm.length : Int) := hn
  clear hO hon hm hn
  unfold geoV at *
  go_enter Try.func20, Try.ntmps20
  go_wp2_with fail
  refine (HON.out).mono ?_
  rintro e w' ⟨rfl, rfl⟩
  try dsimp only
  go_wp2_with fail
  refine (HM.out _ _ HO.out).mono ?_
  rintro e w2 ⟨rfl, hO2, hK2⟩
  have HO2 := hid hO2
  have HK2 := hid ((HK.out).trans hK2)
  clear hO2 hK2
  try dsimp only
  clear hc
  have hc := HO2.out.cells
  go_wp2_with fail
  refine (HSC.out _ _ HO2.out).mono ?_
  rintro e w3 ⟨rfl, hO3, hK3⟩
  have HO3 := hid hO3
  have HK3 := hid ((HK2.out).trans hK3)
  clear hO3 hK3
  try dsimp only
  have HS2 := hid (kSectors d E _ _ HO3.out.p1)
  go_wp2_with fail
  refine (HS2.out).mono ?_
  rintro e w' ⟨rfl, rfl⟩
  try dsimp only
  go_wp2_with fail
  go_ret
  exact ⟨rfl, HO3.out.drop, HK3.out⟩
end
/-- What stands on the disk behind some of the writes. -/
structure FmtOk (n k f i : Nat) (T Z : List (List Int)) (D : Bk) : Prop where
  ok : FirmOk n D (k + i) f
  laid : blayAll D.firm D.waits = T.take i ++ Z.drop i
theorem FmtOk.write {n k f i : Nat} {T Z : List (List Int)} {D : Bk} {t : List Int} (h : FmtOk n k f i T Z D) (ht : T[i]? = some t) (hl : t.length = 128) (hT : T.length = n) (hZ : Z.length = n) :
    (D.write (i : Int) t).1 = 0 ∧ FmtOk n k f (i + 1) T Z (D.write (i : Int) t).2 := by
  have hi : i < T.length := (List.getElem?_eq_some_iff.1 ht).1
  obtain ⟨e, h2⟩ := h.ok.write (i : Int) (by omega) (by omega) t hl
  refine ⟨by rw [e], ⟨h2, ?_⟩⟩
  rw [e]
  show blayAll D.firm (D.waits ++ [((i : Int), t)]) = _
  have e3 : blayAll D.firm (D.waits ++ [((i : Int), t)]) = blay (blayAll D.firm D.waits) ((i : Int), t) := by simp [blayAll]
  rw [e3, h.laid, blay]
  exact lay_step ht (by omega)
set_option maxRecDepth 100000 in
set_option maxHeartbeats 8000000 in
theorem fmtGo (d n k0 f0 : Nat) (E : Bk) (g : Geo) (w : World) (L : List HP) (hm : may g = true) (hn : sectors g = (n : Int)) (hE : FirmOk n E k0 f0) (hk0 : k0 ≤ 1000) (hf0 : f0 ≤ 1000) (hO : Has w (Dk d E :: L)) :
    Calls Try.prog 20 #[.pointer (some ⟨d, 0, none⟩), geoV g] w fun e w' => e = .returned (.int .i64 0) ∧ (∃ E' : Bk, E'.on = true ∧ E'.armed = none ∧ E'.firm = imgL g ∧ E'.waits = [] ∧ Has w' (Dk d E' :: L)) ∧ Keep w w' := by
  have HO := hid (hO.alloc (.cells (gcell g) 24))
  have HK := hid ((Keep.refl w).alloc (.cells (gcell g) 24))
  have HON := hid (kOn d E _ _ HO.out.p1)
  have HM := hid (fun w' L (h : Has w' L) => gMay g w' L h)
  have HSC := hid (fun w' L (h : Has w' L) => gSectors g w' L h)
  have HI := hid (fun w' L (h : Has w' L) => image g w' L hm h)
  have hc := (hO.alloc (.cells (gcell g) 24)).cells
  rw [hE.on] at HON
  rw [hm] at HM
  rw [hn] at HSC
  obtain ⟨n', hn', hn20, hn842⟩ := sectors_nat hm
  obtain rfl : n' = n := by omega
  have HMG := hid hm
  have HEO := hid hE
  have HB := hid (And.intro hk0 (And.intro hf0 (And.intro hn20 hn842)))
  have HLEN := hid (show (imgL g).length = n' by rw [imgL_len, hn']; rfl)
  clear hO hm hn hE hn' hk0 hf0 hn20 hn842
  unfold geoV at *
  go_enter Try.func20, Try.ntmps20
  go_wp2_with fail
  refine (HON.out).mono ?_
  rintro e w' ⟨rfl, rfl⟩
  try dsimp only
  go_wp2_with fail
  refine (HM.out _ _ HO.out).mono ?_
  rintro e w2 ⟨rfl, hO2, hK2⟩
  have HO2 := hid hO2
  have HK2 := hid ((HK.out).trans hK2)
  clear hO2 hK2
  try dsimp only
  clear hc HO HK HON
  have hc := HO2.out.cells
  go_wp2_with fail
  refine (HSC.out _ _ HO2.out).mono ?_
  rintro e w3 ⟨rfl, hO3, hK3⟩
  have HO3 := hid hO3
  have HK3 := hid ((HK2.out).trans hK3)
  clear hO3 hK3
  try dsimp only
  have HS2 := hid (kSectors d E _ _ HO3.out.p1)
  rw [HEO.out.len] at HS2
  go_wp2_with fail
  refine (HS2.out).mono ?_
  rintro e w' ⟨rfl, rfl⟩
  try dsimp only
  clear hc HO2 HK2
  have hc := HO3.out.cells
  go_wp2_with fail
  refine (HI.out _ _ HO3.out).mono ?_
  rintro e w4 ⟨v4, rfl, hO4, hK4⟩
  have HO4 := hid hO4
  have HK4 := hid ((HK3.out).trans hK4)
  clear hO4 hK4
  try dsimp only
  clear hc HO3 HK3 HS2 HI HM HSC
  obtain ⟨R, B, ⟨hR, hBB⟩, h5⟩ := wrt_iff.1 HO4.out
  have hRl : R.length = n' := by rw [← HLEN.out, ← hR, List.length_map]
  obtain ⟨gi, c, rfl⟩ : ∃ gi c, v4 = .slice (some ⟨gi, 0, none⟩) n' c := by
    rcases Wrt.form HO4.out with ⟨-, e⟩ | ⟨gi, c, e⟩
    · have := HLEN.out; rw [e] at this; simp at this; have := HB.out; omega
    · exact ⟨gi, c, by rw [e, HLEN.out]⟩
  have HO5 := hid (show Has w4 (Dk d E :: row (.slice (some ⟨gi, 0, none⟩) n' c) 35 1 R.length (R.map (·.1)) :: poolc 5 B :: L) from h5.re 4 [3, 0, 1])
  have HEL : Hid (∀ k (hk : k < R.length) w' L, Has w' (row (.slice (some ⟨gi, 0, none⟩) n' c) 35 1 R.length (R.map (·.1)) :: poolc 5 B :: L) → w'.cell? ⟨gi, k, none⟩ = some R[k].1 ∧ Rd w' R[k].1 1 R[k].2.length (bc R[k].2) ∧ (imgL g)[k]? = some R[k].2) := hid fun k hk w' L hh => by
    obtain ⟨-, hc, -⟩ := hh.row_cells
    refine ⟨?_, hh.p1.pool_rd (hBB _ (List.getElem_mem hk)), ?_⟩
    · rw [hc k (by omega), List.getElem?_map, List.getElem?_eq_getElem hk]; rfl
    · rw [← hR, List.getElem?_map, List.getElem?_eq_getElem hk]; rfl
  have HRL := hid hRl
  clear h5 hRl hR hBB HO4
  have HZ := hid (show (blayAll E.firm E.waits).length = n' by rw [blayAll_len]; exact HEO.out.len)
  have HF0 := hid (show FmtOk n' k0 f0 0 (imgL g) (blayAll E.firm E.waits) E from ⟨HEO.out, by simp⟩)
  generalize blayAll E.firm E.waits = Z at *
  go_wp2_with fail
  go_loopw [29] (fun i w' => ∃ k : Nat, k ≤ n' ∧ i = .int .i64 k ∧ Hid (∃ E' : Bk, FmtOk n' k0 f0 k (imgL g) Z E' ∧ Has w' (Dk d E' :: row (.slice (some ⟨gi, 0, none⟩) n' c) 35 1 R.length (R.map (·.1)) :: poolc 5 B :: L)) ∧ Hid (Keep w w')) (fun i _ => n' - (intOf i).toNat)
  case atStart => exact ⟨0, by omega, rfl, hid ⟨E, HF0.out, HO5.out⟩, HK4⟩
  case round =>
    clear HO5 HK4 HF0
    obtain ⟨k, hk, rfl, HX, HK⟩ := hrel
    obtain ⟨E', hE', hO⟩ := HX.out
    have HO := hid hO
    have HE := hid hE'
    clear hO hE' HX
    by_cases hlt : k < n'
    · have hki : (k : Int) < (n' : Int) := by omega
      have hnb : (n' : Int) ≤ 1000 := by have := HB.out; omega
      have hk0 : (0 : Int) ≤ (k : Int) := by omega
      have hkR : k < R.length := by rw [HRL.out]; exact hlt
      have hh := HEL.out k hkR wr _ (HO.out.re 3 [1, 2, 0])
      have hcx := hh.1
      have HIX := hid hh.2.2
      have HRX := hid (fun w' (h : Has w' (row (.slice (some ⟨gi, 0, none⟩) n' c) 35 1 R.length (R.map (·.1)) :: poolc 5 B :: L)) => (HEL.out k hkR w' _ h).2.1)
      have HLT := hid hlt
      clear hh hlt hk
      generalize R[k] = x at *
      clear hkR
      have HW := hid (HE.out.write HIX.out (img_128 HMG.out HIX.out) HLEN.out HZ.out)
      have HKW := hid (kWrite d E' wr _ HO.out (k : Int) x.1 x.2 (by have := HE.out.ok.waits; have := HB.out; have := HLT.out; omega) (by have := HE.out.ok.writes; have := HB.out; have := HLT.out; omega) (fun w' h => HRX.out w' h))
      rw [HW.out.1] at HKW
      go_wp2_with fail
      refine (HKW.out).mono ?_
      rintro e w6 ⟨rfl, hO6, hK6⟩
      have HO6 := hid hO6
      have HK6 := hid ((HK.out).trans hK6)
      clear hO6 hK6
      try dsimp only
      clear hcx
      go_wp2_with fail
      exact ⟨⟨k + 1, by have := HLT.out; omega, rfl, hid ⟨_, HW.out.2, HO6.out⟩, HK6⟩, by have := HLT.out; simp [intOf]; omega⟩
    · obtain rfl : k = n' := by omega
      have hki : ¬ (k : Int) < (k : Int) := by omega
      have HFL := hid HE.out.ok.flush
      have HKF := hid (kFlush d E' wr _ HO.out (by rw [HE.out.ok.flushes]; omega) (by rw [HE.out.ok.flushes]; have := HB.out; omega))
      rw [HFL.out.1] at HKF
      clear hlt hk
      go_wp2_with fail
      refine (HKF.out).mono ?_
      rintro e w7 ⟨rfl, hO7, hK7⟩
      have HO7 := hid hO7
      have HK7 := hid ((HK.out).trans hK7)
      clear hO7 hK7
      try dsimp only
      go_wp2_with fail
      go_ret
      refine ⟨rfl, ⟨_, ?_, ?_, ?_, ?_, HO7.out.re 3 [0]⟩, HK7.out⟩
      · exact HE.out.ok.on
      · exact HE.out.ok.armed
      · show blayAll E'.firm E'.waits = imgL g
        rw [HE.out.laid, List.take_of_length_le (by rw [HLEN.out]; exact Nat.le_refl _), List.drop_of_length_le (by rw [HZ.out]; exact Nat.le_refl _), List.append_nil]
      · rfl
end Go.Proofs.Ytbggnbahmdgbdaa
/- THE WALK of OverBytes, what it was given still owned; of a whole list of texts. -/
namespace Go.Own
open Go.RowKit
theorem Has.appendKeep {P : Program} {w : World} {l : List HP} {v : Value} {e : TypeId} {n : Nat} {xs : List Value} (hO : Has w (row v e 1 n xs :: l)) (t ty : TypeId) {z : Value} {bytes : Nat} (ht : P.underlying t = some (.slice e)) (hi : (P.info? e).map (fun i => (i.zero, i.size, i.bytes)) = some (some z, 1, bytes)) (hzs : z.cells.size = 1)
    (b c : Nat) (u : Value) (hu : w.cell? ⟨b, 0, none⟩ = some u) (h1 : u.oneCell' = true) (h63 : n + 1 ≤ maxLen) (hbytes : (n + 1) * bytes ≤ 140737488355328) :
    ∃ v' w', (Builtin.append_ #[t, t] ty #[v, .slice (some ⟨b, 0, none⟩) 1 c]).run P w = .ok v' w' ∧ Has w' (row v e 1 n xs :: l) ∧ Keep w w' := by
  obtain ⟨i, hi', hz, hs, hby⟩ := info_parts hi
  subst hby
  have hsmall : n + 1 ≤ 9223372036854775807 := by simp only [maxLen] at h63; omega
  have hnews : ∀ j y, [u][j]? = some y → w.cell? ((⟨b, 0, none⟩ : Addr).add j) = some y := by
    intro j y hj
    cases j with
    | zero => simp at hj; subst hj; simpa [Addr.add] using hu
    | succ j => simp at hj
  have hone : ∀ y ∈ [u], y.oneCell' = true := by intro y hy; simp at hy; subst hy; exact h1
  obtain ⟨hxl, hc⟩ := hO.row_cases
  rcases hc with ⟨rfl, rfl, rfl, hO'⟩ | ⟨g, cap, cur, rfl, hnc, hcm, hcs, htake, hp⟩
  · have hr := run_append_nil (P := P) w t ty e i z ht hi' hz ⟨b, 0, none⟩ 1 c [u] (by rw [hs]; rfl) hnews (by omega) (by omega) (by have hb := hbytes; simp only [Nat.zero_add] at hb; omega)
    exact ⟨_, _, hr, (hO'.drew.alloc _).drop.row_nil e 1, (Keep.refl w).drew.alloc _⟩
  · by_cases hroom : n + 1 ≤ cap
    · have hfit : n * i.size + [u].length ≤ cur.size := by rw [hs, hcs, Nat.mul_one, Nat.mul_one]; exact hroom
      have hr := run_append_room (P := P) w t ty e i ht hi' g n cap cur hp.lookup ⟨b, 0, none⟩ 1 c [u] (by rw [hs]; rfl) hnews hone hroom hfit
      refine ⟨_, _, hr, (hp.turn (fun k _ hk => setRow_other w g k _ hk) (setRow_heap w g cur _ e _ hp.lookup)).row_of hnc hcm ?_ ?_ hxl, ⟨rfl, rfl, rfl, by simp⟩⟩
      · simp only [List.size_toArray, List.length_append, List.length_take, List.length_drop, Array.length_toList, hs, List.length_singleton]
        omega
      · rw [hs, htake]
        simp only [List.append_assoc]
        exact List.take_left' hxl
    · have holds : ∀ j u, xs[j]? = some u → w.cell? ((⟨g, 0, none⟩ : Addr).add j) = some u := hO.row_own.cells (g := g) rfl
      have hr := run_append_grow (P := P) w t ty e i z ht hi' hz ⟨g, 0, none⟩ n cap xs (by rw [hs]; exact hxl) holds ⟨b, 0, none⟩ 1 c [u] (by rw [hs]; rfl) hnews (by omega) (by omega) (growslice_fits (by omega) hbytes)
      exact ⟨_, _, hr, (hO.drew.alloc _).drop, (Keep.refl w).drew.alloc _⟩
theorem wpList_appendKeep {P : Program} {w : World} {l : List HP} {v : Value} {e : TypeId} {n : Nat} {xs : List Value} {ops : Array Oper} {rest : List Oper} {o : Oper} {a : Act} {Q : Exit → Act → World → Prop} (hgd : o.guard = none) (s x : Operand) (t : TypeId)
    (ho : o.op = .call { callee := .builtin .append, args := #[s, x], argTypes := #[t, t] }) {z : Value} {bytes : Nat} (ht : P.underlying t = some (.slice e)) (hi : (P.info? e).map (fun i => (i.zero, i.size, i.bytes)) = some (some z, 1, bytes)) (hzs : z.cells.size = 1)
    (hO : Has w (row v e 1 n xs :: l)) (hs : a.eval s = v) (b c : Nat) (u : Value) (hx : a.eval x = .slice (some ⟨b, 0, none⟩) 1 c) (hu : w.cell? ⟨b, 0, none⟩ = some u) (h1 : u.oneCell' = true) (h63 : n + 1 ≤ maxLen) (hbytes : (n + 1) * bytes ≤ 140737488355328)
    (h : ∀ v' w', Has w' (row v e 1 n xs :: l) → Keep w w' → wpList P ops Q rest (a.put o.dst v') w') : wpList P ops Q (o :: rest) a w :=
  wpList_plain hgd fun K hK => by
    obtain ⟨v', w', hrun, h2, h3⟩ := hO.appendKeep (P := P) t o.type ht hi hzs b c u hu h1 h63 hbytes
    unfold Oper.wp execOp
    simp only [ho, resolve, invoke, builtin, Sem.run_bind, Sem.run_pure, Result.andThen_ok, List.map_toArray, List.map_cons, List.map_nil, hs, hx, hrun]
    exact hK _ _ (h v' w' h2 h3)
end Go.Own
namespace Go.Proofs.Ytbggnbahmdgbdaa
open Go.RowKit Go.Own
theorem overKeep (v : Value) (xs : List Int) (W : World) (L : List HP) (hO : Has W (Bytes v xs :: L)) (hsm : xs.length ≤ 1000000) :
    Calls Try.prog 16 #[v] W fun e w' => e = .returned (.tuple #[]) ∧ (∃ ys : List Int, ys.length = xs.length ∧ Has w' (Bytes v ys :: L)) ∧ Keep W w' := by
  obtain ⟨p, cap, rfl, hcap, hla, hr⟩ := hO.rd.form
  have Hr := hid hr
  have HO := hid hO
  clear hO hr
  go_enter Try.func16, Try.ntmps16
  go_wp2
  go_loopw [2] (fun i w => ∃ k : Nat, k ≤ xs.length ∧ i = .int .i64 k ∧ Hid (∃ ys : List Int, ys.length = xs.length ∧ Has w (Bytes (.slice p xs.length cap) ys :: L)) ∧ Hid (Keep W w)) (fun i _ => xs.length - (intOf i).toNat)
  case atStart => exact ⟨0, by omega, rfl, hid ⟨xs, rfl, HO.out⟩, hid (Keep.refl _)⟩
  case round =>
    obtain ⟨k, hk, rfl, HY, HK⟩ := hrel
    by_cases hlt : k < xs.length
    · obtain ⟨g, o, rfl, -⟩ := Hr.out (by omega)
      obtain ⟨ys, hy, hO⟩ := HY.out
      have ho : o = 0 := by
        obtain ⟨_, h | ⟨g', c', cur, e, _⟩⟩ := hO.row_cases
        · cases h.1
        · simp at e; exact e.1.2
      subst ho
      obtain ⟨-, hc, ht, -, -⟩ := hO.row_cells
      have hc1 : wr.cell? ⟨g, k, none⟩ = some (.int .u8 (ys.getD k 0)) := by
        rw [hc k (by omega), bc_at ys k (by omega)]; simp [List.getD, hy, hlt]
      have HO1 := hid hO
      have Hy := hid hy
      clear hc hO hy
      go_wp2
      go_roundw
      case rel =>
        refine ⟨k + 1, by omega, by go_num, hid ⟨ys.set k 238, by simp [Hy.out], ?_⟩, hid (HK.out.set _ _)⟩
        have := HO1.out.row_set k (by have := Hy.out; omega) (.int .u8 238)
        simpa [Bytes, bc, List.map_set] using this
      case measure => simp [intOf]; omega
    · obtain ⟨ys, hy, hO⟩ := HY.out
      have HO1 := hid hO
      have Hy := hid hy
      clear hO hy
      go_wp2_with (at_builtin; refine wpList_appendKeep rfl _ _ _ rfl Try.underlying35 infoU8 rfl (HO1.out.alloc' _) rfl _ 1 (.int .u8 238) rfl (by simp) rfl (le_maxLen (by have := Hy.out; omega)) (by have := Hy.out; omega) ?_)
      intro v' w' hO' hK'
      have HO' := hid hO'
      have HK' := hid hK'
      clear hO' hK'
      go_wp2_with fail
      go_end0
      exact ⟨rfl, ⟨ys, Hy.out, HO'.out⟩, (HK.out.alloc _).trans HK'.out⟩
end Go.Proofs.Ytbggnbahmdgbdaa
/- THE WALK of Low. -/
namespace Go.Proofs.Ytbggnbahmdgbdaa
open Go.RowKit Go.Own
theorem lowAny (x n : Int) (w : World) (hn : 1 ≤ n) (hn' : n ≤ 9223372036854775807) :
    Calls Try.prog 6 #[.int .i64 x, .int .i64 n] w fun e w' => e = .returned (.int .i64 (low x n)) ∧ w = w' := by
  go_enter Try.func6, Try.ntmps6
  go_wp2
  go_ret
  exact ⟨by rw [← low_eq x n hn hn']; rfl, rfl⟩
end Go.Proofs.Ytbggnbahmdgbdaa
