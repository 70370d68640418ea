/- The walks of both texts of FromPowers. -/
import Derived.Test.YthjadabaojcmoaaFirsts
import Derived.Test.YthjadabaojcmoaaScale
namespace Go.Proofs.Ythjadabaojcmoaa
open Go.RowKit

theorem take_push' {L : List Int} {k : Nat} {x : Int} (h : k < L.length) (hx : L[k] = x) : L.take k ++ [x] = L.take (k + 1) := by
  rw [List.take_succ_eq_append_getElem h, hx]
/-- The value of coefficients of powers. -/
def hornerL : List Int → Int → Int
  | [], _ => 0
  | a :: r, n => hornerL r n * n + a
theorem horner_step {c : List Int} {n : Int} {r : Nat} (h : r < c.length) : hornerL (c.drop r) n = hornerL (c.drop (r + 1)) n * n + c[r] := by
  rw [List.drop_eq_getElem_cons h, hornerL]
theorem horner_bd {c : List Int} (hb : ∀ x ∈ c, -100000 ≤ x ∧ x ≤ 100000) {n : Int} (h0 : 0 ≤ n) (h6 : n ≤ 6) : -(100000 * 7 ^ c.length) ≤ hornerL c n ∧ hornerL c n ≤ 100000 * 7 ^ c.length := by
  induction c with
  | nil => simp [hornerL]
  | cons a r ih =>
    have ih := ih fun x hx => hb x (List.mem_cons_of_mem _ hx)
    have ha := hb a (List.mem_cons_self ..)
    have hp : (1 : Int) ≤ 7 ^ r.length := by have : (0 : Int) < 7 ^ r.length := Int.pow_pos (by decide); omega
    have hm := mul_bd (hornerL r n) n (100000 * 7 ^ r.length) 6 (by omega) (by decide) ih.1 ih.2 (by omega) h6
    rw [hornerL, List.length_cons, Int.pow_succ]
    omega
theorem horner_small {c : List Int} (hb : ∀ x ∈ c, -100000 ≤ x ∧ x ≤ 100000) (h7 : c.length ≤ 7) {n : Int} (h0 : 0 ≤ n) (h6 : n ≤ 6) : -82354300000 ≤ hornerL c n ∧ hornerL c n ≤ 82354300000 := by
  have h := horner_bd hb h0 h6
  have e : (100000 : Int) * 7 ^ c.length ≤ 82354300000 := by
    have h4 : (7 : Nat) ^ c.length ≤ 7 ^ 7 := Nat.pow_le_pow_right (by decide) h7
    have e4 : ((7 ^ c.length : Nat) : Int) = (7 : Int) ^ c.length := by rw [Int.natCast_pow]; rfl
    have e7 : (7 : Nat) ^ 7 = 823543 := by decide
    rw [← e4]; omega
  omega
theorem horner_drop {c : List Int} (hb : ∀ x ∈ c, -100000 ≤ x ∧ x ≤ 100000) (h7 : c.length ≤ 7) {n : Int} (h0 : 0 ≤ n) (h6 : n ≤ 6) (q : Nat) : -82354300000 ≤ hornerL (c.drop q) n ∧ hornerL (c.drop q) n ≤ 82354300000 :=
  horner_small (fun x hx => hb x (List.mem_of_mem_drop hx)) (by rw [List.length_drop]; omega) h0 h6
theorem horner_mul {h n : Int} (hb : -82354300000 ≤ h ∧ h ≤ 82354300000) (h0 : 0 ≤ n) (h6 : n ≤ 6) : -494125800000 ≤ h * n ∧ h * n ≤ 494125800000 := by
  have := mul_bd h n 82354300000 6 (by decide) (by decide) hb.1 hb.2 (by omega) h6
  omega

/-- The values at 0, 1 and so on. -/
def powL (c : List Int) : List Int := (List.range c.length).map fun i : Nat => hornerL c (i : Int)
theorem powL_length (c : List Int) : (powL c).length = c.length := by simp [powL]
theorem powL_at {c : List Int} {j : Nat} (h : j < (powL c).length) : (powL c)[j] = hornerL c (j : Int) := by simp [powL]
theorem powL_bd {c : List Int} (hb : ∀ x ∈ c, -100000 ≤ x ∧ x ≤ 100000) (h7 : c.length ≤ 7) : ∀ x ∈ powL c, -82354300000 ≤ x ∧ x ≤ 82354300000 := by
  intro x hx
  obtain ⟨j, hj, rfl⟩ := List.getElem_of_mem hx
  rw [powL_at hj]
  have := powL_length c
  exact horner_small hb h7 (by omega) (by omega)
theorem pow7 {n : Nat} (h : n ≤ 7) (M : Int) (h0 : 0 ≤ M) (hM : M ≤ 88270000000000000) : M * 2 ^ n ≤ 16000000000000000000 := by
  have h4 : (2 : Nat) ^ n ≤ 2 ^ 7 := Nat.pow_le_pow_right (by decide) h
  have e4 : ((2 ^ n : Nat) : Int) = (2 : Int) ^ n := by rw [Int.natCast_pow]; rfl
  have e7 : (2 : Nat) ^ 7 = 128 := by decide
  have h5 : (2 : Int) ^ n ≤ 128 := by rw [← e4]; omega
  have := Int.mul_le_mul_of_nonneg_left h5 h0
  omega

set_option maxHeartbeats 1000000 in
theorem l2Result_any (A : Option Addr) (n cap : Nat) (vs : List Int) (M : Int) (w : World) (hr : Row w w.heap.size A vs) (hn : n = vs.length) (hx : n ≤ 7) (h0 : 0 ≤ M) (hM : M ≤ 88270000000000000) (hb : ∀ x ∈ vs, -M ≤ x ∧ x ≤ M) :
    Calls Try.prog 65 #[.slice A n cap] w (GivesB w (keepP (firsts vs)) (polyB (firsts vs))) := by
  have hl : n = (firsts vs).length := by rw [firsts_length]; exact hn
  have L := Lib.hid hl; have N := Lib.hid hn; have R := Lib.hid hr; have HB := Lib.hid hb; clear hn hr hb hl
  go_enter Try.func65, Try.ntmps65
  go_wp2_with (go_at_call 60; refine (firsts_spec _ _ _ vs M _ R.out N.out (by omega) (pow7 hx M h0 hM) h0 HB.out).mono ?_; rintro e w2 hg; obtain ⟨A2, c2, rfl, o2, b2⟩ := hg.len n L.out; have O2 := Lib.hid o2; have B2 := Lib.hid b2; have E2 := Lib.hid (empty_left b2); clear hg o2 b2)
  cases hp : polyB (firsts vs)
  · have P := Lib.hid hp; clear hp
    go_wp2_with (go_at_call 43; refine (pvS _ _ _ (firsts vs) _ _ O2.out.row L.out (by omega)).mono ?_; rintro e w' ⟨rfl, rfl⟩; rw [P.out])
    go_ret2
    exact keep_no P.out E2.out.1 E2.out.2
  · have P := Lib.hid hp; clear hp
    go_wp2_with (go_at_call 43; refine (pvS _ _ _ (firsts vs) _ _ O2.out.row L.out (by omega)).mono ?_; rintro e w' ⟨rfl, rfl⟩; rw [P.out])
    go_ret2
    exact keep_yes P.out L.out O2.out B2.out

set_option maxHeartbeats 1000000 in
theorem l2Power_any (A : Option Addr) (n cap : Nat) (c : List Int) (k : Int) (w : World) (B : Nat) (hr : Row w B A c) (hn : n = c.length) (h7 : n ≤ 7) (hb : ∀ x ∈ c, -100000 ≤ x ∧ x ≤ 100000) (k0 : 0 ≤ k) (k6 : k ≤ 6) :
    Calls Try.prog 64 #[.slice A n cap, .int .i64 k] w fun e w' => e = .returned (.int .i64 (hornerL c k)) ∧ w = w' := by
  have N := Lib.hid hn; have R := Lib.hid hr; have HB := Lib.hid hb; clear hn hr hb
  go_enter Try.func64, Try.ntmps64
  go_wp2_with fail
  go_loop [5, 6] (fun s i => ∃ (z : Int) (q : Nat), i = .int .i64 z ∧ z = (q : Int) - 1 ∧ q ≤ n ∧ s = .int .i64 (hornerL (c.drop q) k)) (fun _ i => (intOf i + 1).toNat)
  case atStart => exact ⟨_, n, rfl, rfl, Nat.le_refl _, by rw [List.drop_of_length_le (by rw [N.out]; exact Nat.le_refl _)]; rfl⟩
  case round =>
    obtain ⟨z, q, rfl, hz, hq, rfl⟩ := hrel
    by_cases h0 : 0 ≤ z
    · obtain ⟨r, rfl⟩ := Int.eq_ofNat_of_zero_le h0
      obtain rfl : q = r + 1 := by omega
      have hrn : r < n := by omega
      have hrl : r < c.length := by have := N.out; omega
      obtain ⟨b, o, rfl, _, hc⟩ := R.out r hrl
      have bx := HB.out c[r] (List.getElem_mem _)
      have bh := horner_mul (horner_drop HB.out (by have := N.out; omega) k0 k6 (r + 1)) k0 k6
      have ST := Lib.hid (horner_step (n := k) hrl)
      clear hz
      generalize c[r] = x at *
      generalize hornerL (c.drop (r + 1)) k = h at *
      go_wp2_with fail
      go_round
      case rel => exact ⟨_, r, rfl, rfl, by omega, by rw [ST.out]⟩
      case measure => simp [intOf] <;> omega
    · obtain rfl : q = 0 := by omega
      clear hz
      go_wp2_with fail
      go_ret
      exact ⟨rfl, rfl⟩

/-- What FromPowers returns. -/
def fpB (c : List Int) : Bool := polyB c && polyB (firsts (powL c))
def fpP (c : List Int) : List Int := if fpB c = true then firsts (powL c) else []
theorem fp_no {c : List Int} (h : polyB c = false) : fpB c = false ∧ fpP c = [] := by
  have : fpB c = false := by unfold fpB; rw [h]; rfl
  exact ⟨this, by unfold fpP; rw [this]; rfl⟩
theorem fp_yes {c : List Int} (h : polyB c = true) : fpB c = polyB (firsts (powL c)) ∧ fpP c = keepP (firsts (powL c)) := by
  have : fpB c = polyB (firsts (powL c)) := by unfold fpB; rw [h]; rfl
  exact ⟨this, by unfold fpP keepP; rw [this]⟩
theorem fpP_length (c : List Int) : (fpP c).length ≤ 7 := by
  unfold fpP
  split
  · rename_i h
    unfold fpB at h
    exact (poly_len (Bool.and_eq_true_iff.1 h).2).2
  · decide

set_option maxHeartbeats 2000000 in
theorem fromPowers_spec (A : Option Addr) (n cap : Nat) (c : List Int) (w : World) (hr : Row w w.heap.size A c) (hn : n = c.length) (hx : n ≤ 10000000) :
    Calls Try.prog 41 #[.slice A n cap] w (GivesB w (fpP c) (fpB c)) := by
  have E := Lib.hid (empty_left (Below.refl w.heap.size w))
  cases h : polyB c
  · rw [(fp_no h).1, (fp_no h).2]
    have N := Lib.hid hn; have R := Lib.hid hr; have H := Lib.hid h; clear hn hr h
    go_enter Try.func41, Try.ntmps41
    go_wp2_with (go_at_call 43; refine (pvS _ _ _ c _ _ R.out N.out hx).mono ?_; rintro e w' ⟨rfl, rfl⟩; rw [H.out])
    go_ret2
    exact ⟨_, _, rfl, E.out.1, E.out.2⟩
  · rw [(fp_yes h).1, (fp_yes h).2]
    have hl := poly_len h
    have hn7 : n ≤ 7 := by omega
    have L : Hid ((powL c).length = n) := by show _ = _; rw [powL_length]; omega
    have PB := Lib.hid (poly_bd h); have N := Lib.hid hn; have R := Lib.hid hr; have H := Lib.hid h; clear hn hr h hl
    go_enter Try.func41, Try.ntmps41
    go_wp2_with (go_at_call 43; refine (pvS _ _ _ c _ _ R.out N.out hx).mono ?_; rintro e w' ⟨rfl, rfl⟩; rw [H.out])
    go_loopw [4, 5] (fun v i wr => ∃ (k : Nat) (A1 : Option Addr) (c1 : Nat), k ≤ n ∧ i = .int .i64 k ∧ v = .slice A1 k c1 ∧ Own wr w.heap.size wr.heap.size (.slice A1 k c1) ((powL c).take k) ∧ Below w.heap.size w wr) (fun _ i _ => n - (intOf i).toNat)
    case atStart => exact ⟨0, _, _, Nat.zero_le _, rfl, rfl, Own.empty w, (Below.refl _ _).alloc (Nat.le_refl _) _⟩
    case round =>
      obtain ⟨k, A1, c1, hk, rfl, rfl, ho, hw⟩ := hrel
      by_cases hlt : k < n
      · have hls : k < (powL c).length := by rw [L.out]; exact hlt
        have tk : (powL c).take k ++ [hornerL c k] = (powL c).take (k + 1) := take_push' hls (powL_at hls)
        have lk : k = ((powL c).take k).length := by rw [List.length_take, L.out]; omega
        have cw := l2Power_any A n cap c (k : Int) wr w.heap.size (R.out.keep hw) N.out hn7 PB.out (by omega) (by omega)
        have C := Lib.hid cw
        generalize hornerL c (k : Int) = x at *
        have wa : Below wr.heap.size wr (wr.alloc (.cells #[.int .i64 x] 3)) := (Below.refl wr.heap.size wr).alloc (Nat.le_refl _) _
        have O := Lib.hid (ho.below wa (Nat.le_refl _)); have V := Lib.hid (hw.trans (wa.mono hw.size)); have TK := Lib.hid tk; have LK := Lib.hid lk; clear ho hw tk lk wa cw
        go_wp2_with (first | (go_at_call 64; refine C.out.mono ?_; rintro e w' ⟨rfl, rfl⟩) | (at_builtin; refine wpList_app rfl _ _ rfl rfl O.out V.out.size rfl rfl (Row.single wr x 3) (by have := LK.out; simp; omega) (k + 1) (by rw [← LK.out]; rfl) ?_; intro A3 c3 w3 ho3 hg3; have O3 := Lib.hid ho3; have V3 := Lib.hid (below_grown V.out hg3 O.out V.out.size (Nat.le_refl _)); clear ho3 hg3))
        go_roundw
        case rel => exact ⟨k + 1, _, _, by omega, by go_num, rfl, by have h := O3.out; rw [TK.out] at h; exact h, V3.out⟩
        case measure => simp [intOf] <;> omega
      · obtain rfl : k = n := by omega
        rw [List.take_of_length_le (by rw [L.out]; exact Nat.le_refl _)] at ho
        have O := Lib.hid ho; have V := Lib.hid hw; clear ho hw
        go_wp2_with (go_at_call 65; refine (l2Result_any _ _ _ (powL c) 82354300000 _ O.out.row L.out.symm hn7 (by decide) (by decide) (powL_bd PB.out (by have := N.out; omega))).mono ?_; rintro e w2 ⟨A2, c2, rfl, o2, b2⟩; have O2 := Lib.hid (o2.loosen V.out.size (Nat.le_refl _)); have B2 := Lib.hid (V.out.trans (b2.mono V.out.size)); clear o2 b2)
        go_ret2
        exact ⟨_, _, rfl, O2.out, B2.out⟩

/-- The block while one value is being worked out. -/
def hornS (c : List Int) (k q : Nat) : List Int := (part (powL c) k).set k (hornerL (c.drop q) k)
theorem hornS_start {c : List Int} {k : Nat} (hk : k < c.length) : hornS c k c.length = part (powL c) k := by
  unfold hornS
  rw [List.drop_of_length_le (Nat.le_refl _)]
  have hp : (part (powL c) k)[k]'(by rw [part_length _ _ (by rw [powL_length]; omega), powL_length]; exact hk) = 0 := by
    have hlt : (List.take k (powL c)).length = k := by rw [List.length_take, powL_length]; omega
    unfold part
    rw [List.getElem_append_right (by omega), List.getElem_replicate]
  have hlk : k < (part (powL c) k).length := by rw [part_length _ _ (by rw [powL_length]; omega), powL_length]; exact hk
  have e : (part (powL c) k).set k ((part (powL c) k)[k]'hlk) = part (powL c) k := List.set_getElem_self hlk
  rw [hp] at e
  exact e
theorem hornS_end {c : List Int} {k : Nat} (hk : k < c.length) : hornS c k 0 = part (powL c) (k + 1) := by
  have hk' : k < (powL c).length := by rw [powL_length]; exact hk
  have h := part_step (powL c) k hk'
  rw [powL_at hk'] at h
  exact h
theorem hornS_length {c : List Int} {k q : Nat} (hk : k < c.length) : (hornS c k q).length = c.length := by
  unfold hornS
  rw [List.length_set, part_length _ _ (by rw [powL_length]; omega), powL_length]
theorem hornS_at {W : World} {g : Nat} {t : TypeId} {c : List Int} {k q : Nat} (hk : k < c.length) (h : Blk W g t (cI (hornS c k q))) : W.cell? ⟨g, k, none⟩ = some (.int .i64 (hornerL (c.drop q) k)) := by
  rw [cI_cell h (by rw [hornS_length hk]; exact hk)]
  unfold hornS
  rw [List.getElem_set_self]
theorem hornS_step {W : World} {g : Nat} {t : TypeId} {c : List Int} {k r : Nat} {x : Int} (h : Blk W g t (cI (hornS c k (r + 1)))) (hx : hornerL (c.drop r) k = x) : Blk (W.setCell ⟨g, k, none⟩ (.int .i64 x)) g t (cI (hornS c k r)) := by
  subst hx
  have h2 := h.put k (.int .i64 (hornerL (c.drop r) k))
  rw [cI_set] at h2
  unfold hornS at h2
  rw [List.set_set] at h2
  exact h2

set_option maxHeartbeats 4000000 in
theorem fromPowers_impl_yes (A : Option Addr) (n cap : Nat) (c : List Int) (w : World) (hr : Row w w.heap.size A c) (hn : n = c.length) (h : polyB c = true) :
    Calls Try.prog 42 #[.slice A n cap] w (GivesB w (keepP (firsts (powL c))) (polyB (firsts (powL c)))) := by
  have hl := poly_len h
  have hn7 : n ≤ 7 := by omega
  have hn1 : 1 ≤ n := by omega
  have g1 : ¬ (n : Int) < 1 := by omega
  have g2 : ¬ (7 : Int) < (n : Int) := by omega
  have hmk := make_ints n (by omega) (n : Int) rfl
  have ha : allB c 100000 = true := allB_iff.2 (poly_bd h)
  have L : Hid ((powL c).length = n) := by show _ = _; rw [powL_length]; omega
  have FL : Hid ((firsts (powL c)).length = n) := by show _ = _; rw [firsts_length, powL_length]; omega
  have AW : Hid (Calls Try.prog 66 #[.slice A n cap, .int .i64 100000] w fun e w' => e = .returned (.bool true) ∧ w = w') := by
    subst hn
    have := allWithin_any A cap c 100000 w _ hr (by omega) (by decide) (by decide)
    rw [ha] at this
    exact this
  have PB := Lib.hid (poly_bd h); have N := Lib.hid hn; have R := Lib.hid hr; clear hn hr h hl ha
  go_enter Try.func42, Try.ntmps42
  go_wp2_with (go_at_call 66; refine AW.out.mono ?_; rintro e w' ⟨rfl, rfl⟩)
  go_loopw [25] (fun i wr => ∃ k : Nat, k ≤ n ∧ i = .int .i64 k ∧ Blk wr w.heap.size 3 (cI (part (powL c) k)) ∧ Below w.heap.size w wr) (fun i _ => n - (intOf i).toNat)
  case atStart => exact ⟨0, Nat.zero_le _, rfl, by rw [part_zero, L.out]; exact Blk.new _ _ _, (Below.refl _ _).alloc (Nat.le_refl _) _⟩
  case round =>
    obtain ⟨k, hk, rfl, hblk, hw⟩ := hrel
    by_cases hlt : k < n
    · have hkc : k < c.length := by have := N.out; omega
      rw [← hornS_start hkc, ← N.out] at hblk
      have KC := Lib.hid hkc
      have HB := Lib.hid hblk; have V := Lib.hid hw; clear hblk hw hkc
      go_wp2_with fail
      go_loopw [6] (fun i wr2 => ∃ (z : Int) (q : Nat), i = .int .i64 z ∧ z = (q : Int) - 1 ∧ q ≤ n ∧ Blk wr2 w.heap.size 3 (cI (hornS c k q)) ∧ Below w.heap.size w wr2) (fun i _ => (intOf i + 1).toNat)
      case atStart => exact ⟨_, n, rfl, rfl, Nat.le_refl _, HB.out, V.out⟩
      case round =>
        obtain ⟨z, q, rfl, hz, hq, hblk2, hw2⟩ := hrel
        by_cases h0 : 0 ≤ z
        · obtain ⟨r, rfl⟩ := Int.eq_ofNat_of_zero_le h0
          obtain rfl : q = r + 1 := by omega
          have hrn : r < n := by omega
          have hrl : r < c.length := by have := N.out; omega
          obtain ⟨b, o, rfl, hbw, hc⟩ := (R.out.keep hw2) r hrl
          have bx := PB.out c[r] (List.getElem_mem _)
          have bh := horner_mul (n := (k : Int)) (horner_drop PB.out (by have := N.out; omega) (n := (k : Int)) (by omega) (by omega) (r + 1)) (by omega) (by omega)
          have hold := hornS_at KC.out hblk2
          have hfree := hblk2.free k
          have ST := Lib.hid (hornS_step hblk2 (horner_step (n := (k : Int)) hrl))
          have V2 := Lib.hid hw2; clear hblk2 hw2 hz
          generalize c[r] = x at *
          generalize hornerL (c.drop (r + 1)) k = h at *
          go_wp2_with fail
          go_region
          go_wp2_with fail
          go_roundw
          case rel => exact ⟨_, r, rfl, rfl, by omega, ST.out, (V2.out.setCell (p := ⟨w.heap.size, k, none⟩) (Nat.le_refl _) _).drew⟩
          case measure => simp [intOf] <;> omega
        · obtain rfl : q = 0 := by omega
          rw [hornS_end KC.out] at hblk2
          have HB2 := Lib.hid hblk2; have V2 := Lib.hid hw2; clear hblk2 hw2 hz
          go_wp2_with fail
          go_roundw
          case rel => exact ⟨k + 1, by omega, by go_num, HB2.out, V2.out⟩
          case measure => simp [intOf] <;> omega
    · obtain rfl : k = n := by omega
      rw [← L.out, part_all] at hblk
      have O := Lib.hid (own_part hblk L.out.symm (by have := L.out; omega)); have V := Lib.hid hw; clear hblk hw
      go_wp2_with (first | (go_at_call 61; refine (firsts_impl _ _ _ (powL c) 82354300000 _ O.out.row L.out.symm (by omega) (pow7 hn7 _ (by decide) (by decide)) (by decide) (powL_bd PB.out (by have := N.out; omega))).mono ?_; rintro e w2 hg; obtain ⟨A2, c2, rfl, o2, b2⟩ := hg.len _ FL.out.symm; have O2 := Lib.hid o2; have B2 := Lib.hid (V.out.trans (b2.mono V.out.size)); clear hg o2 b2) | (go_at_call 45; refine (checked_own _ _ _ _ _ (firsts (powL c)) w _ O2.out V.out.size (Nat.le_refl _) B2.out FL.out.symm (by omega)).mono ?_; rintro e w3 ⟨A3, c3, rfl, o3, b3⟩; have O3 := Lib.hid o3; have B3 := Lib.hid b3; clear o3 b3))
      go_ret2
      exact ⟨_, _, rfl, O3.out, B3.out⟩

set_option maxHeartbeats 1000000 in
theorem fromPowers_impl (A : Option Addr) (n cap : Nat) (c : List Int) (w : World) (hr : Row w w.heap.size A c) (hn : n = c.length) (hx : n ≤ 10000000) :
    Calls Try.prog 42 #[.slice A n cap] w (GivesB w (fpP c) (fpB c)) := by
  cases h : polyB c
  · rw [(fp_no h).1, (fp_no h).2]
    by_cases g1 : (n : Int) < 1
    · clear hr h hn
      go_enter Try.func42, Try.ntmps42
      go_wp2_with fail
      go_ret2
      exact ⟨none, 0, rfl, Own.none_ _ _ _, Below.refl _ _⟩
    · by_cases g2 : (7 : Int) < (n : Int)
      · clear hr h hn
        go_enter Try.func42, Try.ntmps42
        go_wp2_with fail
        go_ret2
        exact ⟨none, 0, rfl, Own.none_ _ _ _, Below.refl _ _⟩
      · have AW : Hid (Calls Try.prog 66 #[.slice A n cap, .int .i64 100000] w fun e w' => e = .returned (.bool false) ∧ w = w') := by
          subst hn
          have := allWithin_any A cap c 100000 w _ hr (by omega) (by decide) (by decide)
          rw [show allB c 100000 = false by
            have hh : (inB c.length 1 (7 : Nat) && allB c 100000) = false := h
            rw [inB_mk (by omega) (by omega)] at hh
            exact hh] at this
          exact this
        clear hr h hn
        go_enter Try.func42, Try.ntmps42
        go_wp2_with (go_at_call 66; refine AW.out.mono ?_; rintro e w' ⟨rfl, rfl⟩)
        go_ret2
        exact ⟨none, 0, rfl, Own.none_ _ _ _, Below.refl _ _⟩
  · rw [(fp_yes h).1, (fp_yes h).2]
    exact fromPowers_impl_yes A n cap c w hr hn h
end Go.Proofs.Ythjadabaojcmoaa
