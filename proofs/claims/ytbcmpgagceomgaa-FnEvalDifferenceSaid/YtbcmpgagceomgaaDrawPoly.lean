/- What the draws of polynomials and their arguments return. -/
import Derived.Test.YtbcmpgagceomgaaSrc
import Derived.Test.YtbcmpgagceomgaaApp
namespace Go.Proofs.Ytbcmpgagceomgaa
open Go.RowKit

/-- Of what was there block g alone has turned. -/
structure Only (g : Nat) (w w' : World) : Prop where
  below : Below g w w'
  size : w.heap.size ≤ w'.heap.size
  keep : ∀ k, k ≠ g → k < w.heap.size → w'.heap[k]? = w.heap[k]?
theorem Turned.only {g : Nat} {w w' : World} (h : Turned g w w') : Only g w w' := ⟨h.below, by rw [h.size]; exact Nat.le_refl _, fun k hk _ => h.block k hk⟩
theorem Only.trans {g : Nat} {a b c : World} (h : Only g a b) (h2 : Only g b c) : Only g a c :=
  ⟨h.below.trans h2.below, Nat.le_trans h.size h2.size, fun k hk hl => (h2.keep k hk (Nat.lt_of_lt_of_le hl h.size)).trans (h.keep k hk hl)⟩
theorem Only.of_below {g : Nat} {w w' : World} (hg : g ≤ w.heap.size) (h : Below w.heap.size w w') : Only g w w' := ⟨h.mono hg, h.size, fun k _ hl => h.block k hl⟩
theorem Own.only {w w' : World} {lo hi g : Nat} {v : Value} {xs : List Int} (h : Own w lo hi v xs) (ho : Only g w w') (hg : g < lo) (hh : hi ≤ w.heap.size) : Own w' lo hi v xs :=
  h.keep fun k h1 h2 => ho.keep k (by omega) (by omega)
theorem Row.only {w w' : World} {g : Nat} {A : Option Addr} {xs : List Int} (h : Row w w.heap.size A xs) (hne : ∀ a, A = some a → a.block ≠ g) (ho : Only g w w') : Row w' w'.heap.size A xs := fun k hk => by
  obtain ⟨b, o, hA, hlt, hc⟩ := h k hk
  have hb := hne _ hA
  exact ⟨b, o, hA, Nat.lt_of_lt_of_le hlt ho.size, by rw [World.cell?_of_block (w := w) (ho.keep b hb hlt)]; exact hc⟩

theorem num_O {w : World} {g : Nat} {A : Option Addr} {m c : Nat} {p : Int} (S : Src w g A m c p) (p1 : p ≤ 1000000) (xs : List Int) (n : Nat) (hn : n = xs.length) (n1 : 1 ≤ n) (n2 : n ≤ 1000) :
    Calls Try.prog 48 #[.pointer (some ⟨g, 0, none⟩), .slice (some ⟨w.heap.size, 0, none⟩) n n] (w.alloc (.cells (cI xs) 3)) fun e w' => ∃ x, (e = .returned (.int .i64 x) ∧ x ∈ xs) ∧ Src w' g A m c (p + 1) ∧ Only g w w' := by
  have S1 := S.alloc (.cells (cI xs) 3)
  have hl := S.lt
  refine (num_any g A m c p _ S1.blk S1.row S.small S.low p1 w.heap.size 0 n n xs (srcBlk_row (Blk.new w 3 (cI xs))) (by omega) hn n1 n2).mono ?_
  rintro e w' ⟨x, he, hb, ht⟩
  exact ⟨x, he, ⟨hb, S1.row.keep ht.below, S.small, by have := S.low; omega⟩, (Only.of_below (by omega) ((Below.refl w.heap.size w).alloc (Nat.le_refl _) _)).trans ht.only⟩

theorem pick_O {w : World} {g : Nat} {A : Option Addr} {m c : Nat} {p : Int} (S : Src w g A m c p) (n : Int) (p1 : p ≤ 1000000) (n1 : 1 ≤ n) (n2 : n ≤ 1000000) :
    Calls Try.prog 47 #[.pointer (some ⟨g, 0, none⟩), .int .i64 n] w fun e w' => ∃ x, e = .returned (.int .i64 x) ∧ (0 ≤ x ∧ x < n) ∧ Src w' g A m c (p + 1) ∧ Only g w w' :=
  (pick_S S n p1 n1 n2).mono fun _ _ ⟨x, he, hx, hS, ht⟩ => ⟨x, he, hx, hS, ht.only⟩

/-- The length of a slice. -/
def lenV : Value → Nat
  | .slice _ n _ => n
  | _ => 0
/-- An int of 64 bits. -/
def I64 (x : Int) : Prop := -9223372036854775808 ≤ x ∧ x ≤ 9223372036854775807

set_option maxHeartbeats 1000000 in
theorem l2Number_S {w : World} {g : Nat} {A : Option Addr} {m c : Nat} {p : Int} (S : Src w g A m c p) (p1 : p ≤ 1000) :
    Calls Try.prog 46 #[.pointer (some ⟨g, 0, none⟩)] w fun e w' => ∃ x : Int, (e = .returned (.int .i64 x) ∧ I64 x) ∧ Only g w w' := by
  have C := Lib.hid (pick_O S 12 (by omega) (by decide) (by decide))
  clear S
  go_enter Try.func46, Try.ntmps46
  go_wp2_with fail
  refine C.out.mono ?_
  rintro e w1 ⟨z, rfl, ⟨z0, z1⟩, S1, ht⟩
  have V := Lib.hid ht
  by_cases hz : z = 0
  · subst hz
    have C2 := Lib.hid (num_O S1 (by omega) [200, 201, -200, -201, 9223372036854775807, -9223372036854775808] 6 rfl (by decide) (by decide))
    clear S1 ht C
    go_wp2_with fail
    refine C2.out.mono ?_
    rintro e w2 ⟨x, ⟨rfl, hx⟩, S2, ht2⟩
    have hx2 : Hid (I64 x) := by
      refine Lib.hid ?_
      simp at hx
      unfold I64
      omega
    have V2 := Lib.hid (V.out.trans ht2); clear S2 ht2 hx
    go_wp2_with fail
    go_ret
    exact ⟨x, ⟨rfl, hx2.out⟩, V2.out⟩
  · have hzb : (z == 0) = false := by simp [hz]
    have C2 := Lib.hid (pick_O S1 60 (by omega) (by decide) (by decide))
    clear S1 ht C hz
    go_wp2_with fail
    refine C2.out.mono ?_
    rintro e w2 ⟨x, rfl, ⟨a0, a1⟩, S2, ht2⟩
    have V2 := Lib.hid (V.out.trans ht2); clear S2 ht2
    go_wp2_with fail
    go_ret
    exact ⟨x - 20, ⟨rfl, by omega, by omega⟩, V2.out⟩

/-- The state of the loop that draws a polynomial. -/
def Somes (w : World) (g lo : Nat) (A : Option Addr) (m c : Nat) (p : Int) (v i : Value) (wr : World) : Prop :=
  ∃ (k q : Nat) (A1 : Option Addr) (c1 : Nat) (xs : List Int) (p' : Int), k + q ≤ 5 ∧ 1 ≤ k + q ∧ i = .int .i64 (k : Int) ∧ v = .slice A1 q c1 ∧ Hid (q = xs.length) ∧ Hid (Own wr lo wr.heap.size (.slice A1 q c1) xs) ∧
    Hid (Src wr g A m c p') ∧ p' ≤ p + 2 * q ∧ Hid (Below g w wr) ∧ lo ≤ wr.heap.size

set_option maxHeartbeats 800000 in
theorem l2Some_S {w : World} {g : Nat} {A : Option Addr} {m c : Nat} {p : Int} (S : Src w g A m c p) (p1 : p ≤ 1000) :
    Calls Try.prog 58 #[.pointer (some ⟨g, 0, none⟩)] w fun e w' => ∃ (xs : List Int) (A1 : Option Addr) (q c1 : Nat) (p' : Int), e = .returned (.slice A1 q c1) ∧ (q = xs.length ∧ 1 ≤ q ∧ q ≤ 6) ∧ Own w' w.heap.size w'.heap.size (.slice A1 q c1) xs ∧ (p' ≤ p + 20 ∧ Src w' g A m c p') ∧ (Below g w w' ∧ w.heap.size ≤ w'.heap.size) := by
  have hl := S.lt
  have S1 := S.alloc (.cells #[] 3)
  have OE := Lib.hid (Own.empty w)
  have V0 := Lib.hid ((Below.refl g w).alloc (Nat.le_of_lt hl) (.cells #[] 3))
  have C := Lib.hid (num_O S1 (by omega) [10, 100, 1000, 3] 4 rfl (by decide) (by decide))
  rw [show (w.alloc (.cells #[] 3)).heap.size = w.heap.size + 1 by simp] at C
  have SZ : w.heap.size ≤ (w.alloc (.cells #[] 3)).heap.size := by simp
  have SZ0 := Lib.hid SZ
  clear S S1 SZ
  go_enter Try.func58, Try.ntmps58
  go_wp2_with fail
  refine C.out.mono ?_
  rintro e w1 ⟨s, ⟨rfl, hs⟩, S2, ht⟩
  have hs2 : 3 ≤ s ∧ s ≤ 1000 := by
    simp at hs
    omega
  obtain ⟨hs3, hs4⟩ := hs2
  have O1 := Lib.hid (OE.out.only ht hl (Nat.le_refl _))
  have OS := Lib.hid ht.size
  have V1 := Lib.hid (V0.out.trans ht.below)
  have C1 := Lib.hid (pick_O S2 5 (by omega) (by decide) (by decide))
  clear S2 ht hs C
  go_wp2_with fail
  refine C1.out.mono ?_
  rintro e w2 ⟨k0, rfl, ⟨k1, k2⟩, S3, ht⟩
  obtain ⟨j, rfl⟩ := Int.eq_ofNat_of_zero_le k1
  have O2 := (O1.out.only ht hl OS.out).loosen (Nat.le_refl _) (Nat.le_trans OS.out ht.size)
  have ST : Hid (Somes w g w.heap.size A m c (p + 1 + 1) (.slice (some ⟨w.heap.size, 0, none⟩) 0 0) (.int .i64 (1 + (j : Int))) w2) :=
    Lib.hid ⟨1 + j, 0, _, _, [], p + 1 + 1, by omega, by omega, by congr 1, rfl, Lib.hid rfl, Lib.hid O2, Lib.hid S3, by omega, Lib.hid (V1.out.trans ht.below), by have := SZ0.out; have := OS.out; have := ht.size; omega⟩
  generalize hlo : w.heap.size = lo at *
  have HLO := Lib.hid hlo
  clear S3 ht O2 C1 O1 OE hlo
  go_wp2_with fail
  go_loopw [3, 5] (fun v i wr => Somes w g lo A m c (p + 1 + 1) v i wr) (fun _ i _ => (intOf i).toNat)
  case atStart => exact ST.out
  case round =>
    obtain ⟨k, q, A1, c1, xs, p', hk, hk1, rfl, rfl, N, HO, HS, hp, HV, hsz⟩ := hrel
    by_cases h0 : 0 < k
    · have h0' : (0 : Int) < (k : Int) := by omega
      have D1 := Lib.hid (pick_O HS.out 256 (by omega) (by decide) (by decide))
      go_wp2_with fail
      refine D1.out.mono ?_
      rintro e w3 ⟨x, rfl, ⟨x0, x1⟩, S4, t4⟩
      have O4 := Lib.hid ((HO.out.only t4 hl (Nat.le_refl _)).loosen (Nat.le_refl _) t4.size)
      have V4 := Lib.hid (HV.out.trans t4.below)
      have Z4 : lo ≤ w3.heap.size := Nat.le_trans hsz t4.size
      have D2 := Lib.hid (pick_O S4 256 (by omega) (by decide) (by decide))
      clear S4 t4 D1
      go_wp2_with fail
      refine D2.out.mono ?_
      rintro e w4 ⟨y, rfl, ⟨y0, y1⟩, S5, t5⟩
      have O5 := (O4.out.only t5 hl (Nat.le_refl _)).loosen (Nat.le_refl _) t5.size
      have V6 := V4.out.trans t5.below
      have Z5 : lo ≤ w4.heap.size := Nat.le_trans Z4 t5.size
      have q1 : 0 ≤ x * y ∧ x * y ≤ 65025 := by
        have := Int.mul_nonneg x0 y0
        have := Int.mul_le_mul (show x ≤ 255 by omega) (show y ≤ 255 by omega) y0 (by decide)
        omega
      obtain ⟨q2, q3⟩ := q1
      have r0 := Int.emod_nonneg (x * y) (show 2 * s + 1 ≠ 0 by omega)
      have r1 := Int.emod_lt_of_pos (x * y) (show 0 < 2 * s + 1 by omega)
      have O6 := Lib.hid (fun v : Int => O5.below ((Below.refl w4.heap.size w4).alloc (Nat.le_refl _) (.cells #[.int .i64 v] 3)) (Nat.le_refl _))
      have S6 := Lib.hid (fun v : Int => S5.alloc (.cells #[.int .i64 v] 3))
      have B6 := Lib.hid (fun v : Int => V6.alloc (Nat.le_trans (Nat.le_of_lt hl) Z5) (.cells #[.int .i64 v] 3))
      have Z6 : Hid (∀ v : Int, lo ≤ (w4.alloc (.cells #[.int .i64 v] 3)).heap.size) := Lib.hid fun v => by simp; omega
      clear O5 S5 t5 V6 D2
      go_wp2_with (at_builtin; refine wpList_app rfl _ _ rfl rfl (O6.out _) (Z6.out _) rfl rfl (Row.single w4 _ 3) (by have := N.out; simp; omega) (q + 1) (by rw [N.out]; rfl) ?_; intro A3 c3 w5 ho5 hg5; have bl := below_grown (Below.refl lo _) hg5 (O6.out _) (Z6.out _) (Nat.le_refl _); have O7 := Lib.hid ho5; have S7 := Lib.hid ((S6.out _).keep bl hl); have B7 := Lib.hid ((B6.out _).trans (bl.mono (Nat.le_of_lt hl))); have Z7 := Lib.hid (Nat.le_trans (Z6.out _) bl.size); clear ho5 hg5 bl)
      go_roundw
      case rel => exact ⟨k - 1, q + 1, _, _, _, p' + 1 + 1, by omega, by omega, by congr 1; omega, rfl, Lib.hid (by have := N.out; simp; omega), O7, S7, by omega, B7, Z7.out⟩
      case measure => simp [intOf] <;> omega
    · have h0' : ¬ (0 : Int) < (k : Int) := by omega
      have hq1 : 1 ≤ q := by omega
      have D1 := Lib.hid (pick_O HS.out 5 (by omega) (by decide) (by decide))
      go_wp2_with fail
      refine D1.out.mono ?_
      rintro e w3 ⟨x, rfl, ⟨x0, x1⟩, S4, t4⟩
      have O4 := (HO.out.only t4 hl (Nat.le_refl _)).loosen (Nat.le_refl _) t4.size
      have V4 := HV.out.trans t4.below
      have Z4 : lo ≤ w3.heap.size := Nat.le_trans hsz t4.size
      by_cases hx : x = 0
      · subst hx
        have O6 := Lib.hid (O4.below ((Below.refl w3.heap.size w3).alloc (Nat.le_refl _) (.cells #[.int .i64 0] 3)) (Nat.le_refl _))
        have S6 := Lib.hid (S4.alloc (.cells #[.int .i64 0] 3))
        have B6 := Lib.hid (V4.alloc (Nat.le_trans (Nat.le_of_lt hl) Z4) (.cells #[.int .i64 0] 3))
        have Z6 : Hid (lo ≤ (w3.alloc (.cells #[.int .i64 0] 3)).heap.size) := Lib.hid (by simp; omega)
        clear O4 S4 t4 V4 D1
        go_wp2_with (at_builtin; refine wpList_app rfl _ _ rfl rfl O6.out Z6.out rfl rfl (Row.single w3 _ 3) (by have := N.out; simp; omega) (q + 1) (by rw [N.out]; rfl) ?_; intro A3 c3 w5 ho5 hg5; have bl := below_grown (Below.refl lo _) hg5 O6.out Z6.out (Nat.le_refl _); have O7 := Lib.hid ho5; have S7 := Lib.hid (S6.out.keep bl hl); have B7 := Lib.hid (B6.out.trans (bl.mono (Nat.le_of_lt hl))); have Z7 := Lib.hid (Nat.le_trans Z6.out bl.size); clear ho5 hg5 bl)
        go_ret
        exact ⟨xs ++ [0], _, q + 1, _, p' + 1, rfl, ⟨by have := N.out; simp; omega, by omega, by omega⟩, by rw [HLO.out]; exact O7.out, ⟨by omega, S7.out⟩, B7.out, by rw [HLO.out]; exact Z7.out⟩
      · have hxb : (x == 0) = false := by simp [hx]
        have O6 := Lib.hid O4
        have S6 := Lib.hid S4
        have B6 := Lib.hid V4
        clear O4 S4 t4 V4 D1 hx
        go_wp2_with fail
        go_ret
        exact ⟨xs, _, q, _, p' + 1, rfl, ⟨N.out, by omega, by omega⟩, by rw [HLO.out]; exact O6.out, ⟨by omega, S6.out⟩, B6.out, by rw [HLO.out]; exact Z4⟩

/-- The block of an own row that is not empty. -/
theorem Own.open {w : World} {lo hi : Nat} {A : Option Addr} {n c : Nat} {xs : List Int} (h : Own w lo hi (.slice A n c) xs) (h0 : 1 ≤ n) :
    ∃ b cs, A = some ⟨b, 0, none⟩ ∧ lo ≤ b ∧ b < hi ∧ Blk w b 3 cs ∧ n = xs.length ∧ n ≤ c ∧ ∀ k (hk : k < xs.length), cs[k]? = some (.int .i64 xs[k]) := by
  have hbk := h.blk
  have hrow := h.row
  obtain ⟨h, hlt⟩ := h
  rcases h.2 with ⟨h', hz⟩ | ⟨g, cap', cur, h', hb, hg, hnc, hcm, hcs, htake⟩
  · simp only [Value.slice.injEq] at h'
    omega
  · simp only [Value.slice.injEq] at h'
    obtain ⟨rfl, rfl, rfl⟩ := h'
    refine ⟨g, cur, rfl, hb, hlt g rfl, hg, rfl, hnc, fun k hk => ?_⟩
    obtain ⟨b, o, e, _, hc⟩ := hrow k hk
    simp only [Option.some.injEq, Addr.mk.injEq, and_true] at e
    obtain ⟨rfl, rfl⟩ := e
    rw [Nat.zero_add] at hc
    rw [← Blk.cell (w := w) (t := 3) hg k]
    exact hc

/-- What is drawn as a polynomial: a list that lies in no block of the source. -/
structure Drawn (w' : World) (g : Nat) (v : Value) (xs : List Int) : Prop where
  form : ∃ A n c, v = .slice A n c ∧ n = xs.length ∧ n ≤ 8 ∧ n ≤ c ∧ Row w' w'.heap.size A xs ∧ ∀ a, A = some a → a.block ≠ g
theorem Drawn.mk' {w' : World} {g : Nat} {A : Option Addr} {n c : Nat} {xs : List Int} (hn : n = xs.length) (h8 : n ≤ 8) (hc : n ≤ c) (hr : Row w' w'.heap.size A xs) (hne : ∀ a, A = some a → a.block ≠ g) : Drawn w' g (.slice A n c) xs := ⟨A, n, c, rfl, hn, h8, hc, hr, hne⟩
theorem Own.drawn {w : World} {lo g : Nat} {A : Option Addr} {n c : Nat} {xs : List Int} (h : Own w lo w.heap.size (.slice A n c) xs) (hg : g < lo) (hn : n = xs.length) (h8 : n ≤ 8) : Drawn w g (.slice A n c) xs := by
  have hcap : n ≤ c := by subst hn; exact h.cap
  refine Drawn.mk' hn h8 hcap h.row fun a ha => ?_
  have := h.blk a.block (by subst ha; rfl)
  omega

set_option maxHeartbeats 800000 in
theorem l2Bad_S {w : World} {g : Nat} {A : Option Addr} {m c : Nat} {p : Int} (S : Src w g A m c p) (p1 : p ≤ 1000) (lo : Nat) (A1 : Option Addr) (q c1 : Nat) (xs : List Int) (ho : Own w lo w.heap.size (.slice A1 q c1) xs) (hg : g < lo) (hlo : lo ≤ w.heap.size) (hq : q = xs.length) (q1 : 1 ≤ q) (q6 : q ≤ 6) :
    Calls Try.prog 57 #[.pointer (some ⟨g, 0, none⟩), .slice A1 q c1] w fun e w' => ∃ (ys : List Int) (v : Value) (p' : Int), e = .returned v ∧ Drawn w' g v ys ∧ (p' ≤ p + 3 ∧ Src w' g A m c p') ∧ Below g w w' := by
  have C := Lib.hid (pick_O S (q : Int) (by omega) (by omega) (by omega))
  have O := Lib.hid ho; have N := Lib.hid hq; clear S ho hq
  go_enter Try.func57, Try.ntmps57
  go_wp2_with fail
  refine C.out.mono ?_
  rintro e w1 ⟨k0, rfl, ⟨k0a, k0b⟩, S1, t1⟩
  obtain ⟨k, rfl⟩ := Int.eq_ofNat_of_zero_le k0a
  have C1 := Lib.hid (pick_O S1 40 (by omega) (by decide) (by decide))
  have O1 := Lib.hid ((O.out.only t1 hg (Nat.le_refl _)).loosen (Nat.le_refl _) t1.size)
  have V1 := Lib.hid t1.below
  have Z1 : lo ≤ w1.heap.size := Nat.le_trans hlo t1.size
  clear S1 t1 C O
  go_wp2_with fail
  refine C1.out.mono ?_
  rintro e w2 ⟨z, rfl, ⟨z0, z1⟩, S2, t2⟩
  have O2 := Lib.hid ((O1.out.only t2 hg (Nat.le_refl _)).loosen (Nat.le_refl _) t2.size)
  have V2 := Lib.hid (V1.out.trans t2.below)
  have Z2 : lo ≤ w2.heap.size := Nat.le_trans Z1 t2.size
  have S3 := Lib.hid S2
  clear S2 t2 C1 O1
  by_cases h0 : z = 0
  · subst h0
    have C2 := Lib.hid (num_O S3.out (by omega) [100000, 100001, -100000, -100001, 9223372036854775807] 5 rfl (by decide) (by decide))
    go_wp2_with fail
    refine C2.out.mono ?_
    rintro e w3 ⟨x, ⟨rfl, hx⟩, S4, t4⟩
    have O4 := (O2.out.only t4 hg (Nat.le_refl _)).loosen (Nat.le_refl _) t4.size
    have V4 := Lib.hid (V2.out.trans t4.below)
    obtain ⟨b, cs, rfl, hb1, hb2, hblk, hqq, hqc, hcs⟩ := O4.open q1
    clear hqq
    have hkx : k < xs.length := by have := N.out; omega
    have hkq : k < q := by omega
    have hold := hblk.cell k
    rw [hcs k hkx] at hold
    have hfree := hblk.free k
    have hput := hblk.put k (.int .i64 x)
    have D : Hid (Drawn (w3.setCell ⟨b, k, none⟩ (.int .i64 x)) g (.slice (some ⟨b, 0, none⟩) q c1) (xs.set k x)) := by
      refine Lib.hid (Drawn.mk' (by rw [List.length_set]; exact N.out) (by omega) hqc (fun j hj => ?_) (fun a ha => ?_))
      · rw [List.length_set] at hj
        refine ⟨b, 0, rfl, hput.lt, ?_⟩
        rw [Nat.zero_add, hput.cell]
        have hcj := hcs j hj
        by_cases hjk : k = j
        · subst hjk
          have hsz : k < cs.size := by
            apply Classical.byContradiction
            intro hn
            rw [Array.getElem?_eq_none (by omega)] at hcj
            cases hcj
          rw [Array.getElem?_setIfInBounds_self_of_lt hsz, List.getElem_set_self]
        · rw [Array.getElem?_setIfInBounds_ne hjk, List.getElem_set_ne hjk]
          exact hcj
      · rw [Option.some.injEq] at ha
        subst ha
        show b ≠ g
        omega
    have S5 := Lib.hid (S4.put (h := b) (by omega) k (.int .i64 x))
    have V5 := Lib.hid (V4.out.setCell (p := ⟨b, k, none⟩) (by show g ≤ b; omega) (.int .i64 x))
    clear S4 t4 O4 hblk hcs hput hx C2
    go_wp2_with fail
    go_ret
    exact ⟨_, _, _, rfl, D.out, ⟨by omega, S5.out⟩, V5.out⟩
  · have b0 : (z == 0) = false := by simp [h0]
    by_cases h1 : z = 1
    · subst h1
      clear h0
      go_wp2_with fail
      go_ret
      refine ⟨[], _, _, rfl, Drawn.mk' rfl (by decide) (Nat.zero_le _) (Row.nil _ _ _) (fun a ha => ?_), ⟨by omega, S3.out⟩, V2.out⟩
      have := O2.out.blk a.block (by subst ha; rfl)
      omega
    · have b1 : (z == 1) = false := by simp [h1]
      by_cases h2 : z = 2
      · subst h2
        clear h0 h1
        go_wp2_with fail
        go_loopw [1] (fun v wr => ∃ (j : Nat) (A2 : Option Addr) (c2 : Nat) (ys : List Int), j ≤ 8 ∧ v = .slice A2 j c2 ∧ Hid (j = ys.length) ∧ Hid (Own wr lo wr.heap.size (.slice A2 j c2) ys) ∧ Hid (Src wr g A m c (p + 1 + 1)) ∧ Hid (Below g w wr) ∧ lo ≤ wr.heap.size) (fun v _ => 8 - lenV v)
        case atStart => exact ⟨q, _, _, xs, by omega, rfl, N, O2, S3, V2, Z2⟩
        case round =>
          obtain ⟨j, A2, c2, ys, hj, rfl, NJ, HO, HS, HV, hsz⟩ := hrel
          by_cases hlt : j < 8
          · have hlt' : (j : Int) < 8 := by omega
            have O6 := Lib.hid (HO.out.below ((Below.refl wr.heap.size wr).alloc (Nat.le_refl _) (.cells #[.int .i64 1] 3)) (Nat.le_refl _))
            have S6 := Lib.hid (HS.out.alloc (.cells #[.int .i64 1] 3))
            have B6 := Lib.hid (HV.out.alloc (Nat.le_trans (Nat.le_of_lt hg) hsz) (.cells #[.int .i64 1] 3))
            have Z6 : Hid (lo ≤ (wr.alloc (.cells #[.int .i64 1] 3)).heap.size) := Lib.hid (by simp; omega)
            go_wp2_with (at_builtin; refine wpList_app rfl _ _ rfl rfl O6.out Z6.out rfl rfl (Row.single wr _ 3) (by have := NJ.out; simp; omega) (j + 1) (by rw [NJ.out]; rfl) ?_; intro A3 c3 w5 ho5 hg5; have bl := below_grown (Below.refl lo _) hg5 O6.out Z6.out (Nat.le_refl _); have O7 := Lib.hid ho5; have S7 := Lib.hid (S6.out.keep bl hg); have B7 := Lib.hid (B6.out.trans (bl.mono (Nat.le_of_lt hg))); have Z7 := Lib.hid (Nat.le_trans Z6.out bl.size); clear ho5 hg5 bl)
            go_roundw
            case rel => exact ⟨j + 1, _, _, _, by omega, rfl, Lib.hid (by have := NJ.out; simp; omega), O7, S7, B7, Z7.out⟩
            case measure => simp [lenV] <;> omega
          · have hlt' : ¬ (j : Int) < 8 := by omega
            go_wp2_with fail
            go_ret
            exact ⟨ys, _, rfl, HO.out.drawn hg NJ.out hj, ⟨_, by omega, HS.out⟩, HV.out⟩
      · have b2 : (z == 2) = false := by simp [h2]
        clear h0 h1 h2
        go_wp2_with fail
        go_ret
        exact ⟨xs, _, _, rfl, O2.out.drawn hg N.out (by omega), ⟨by omega, S3.out⟩, V2.out⟩

set_option maxHeartbeats 400000 in
theorem l2Open_S {w : World} {g : Nat} {A : Option Addr} {m c : Nat} {p : Int} (S : Src w g A m c p) (p1 : p ≤ 900) :
    Calls Try.prog 52 #[.pointer (some ⟨g, 0, none⟩)] w fun e w' => ∃ (ys : List Int) (v : Value) (p' : Int), e = .returned v ∧ Drawn w' g v ys ∧ (p' ≤ p + 23 ∧ Src w' g A m c p') ∧ Below g w w' := by
  have C := Lib.hid (l2Some_S S (by omega))
  have hl := S.lt
  clear S
  go_enter Try.func52, Try.ntmps52
  go_wp2_with fail
  refine C.out.mono ?_
  rintro e w1 ⟨xs, A1, q, c1, p', rfl, ⟨hq, q1, q6⟩, ho, ⟨hp, S1⟩, hb, hz⟩
  have C2 := Lib.hid (l2Bad_S S1 (by omega) _ A1 q c1 xs ho hl hz hq q1 q6)
  have B := Lib.hid hb
  clear ho S1 hb C hq
  go_wp2_with fail
  refine C2.out.mono ?_
  rintro e w2 ⟨ys, v, p2, rfl, hd, ⟨hp2, S2⟩, hb2⟩
  have D := Lib.hid hd; have S3 := Lib.hid S2; have B2 := Lib.hid (B.out.trans hb2)
  clear hd S2 hb2 C2
  go_wp2_with fail
  go_ret
  exact ⟨ys, v, p2, rfl, D.out, ⟨by omega, S3.out⟩, B2.out⟩

set_option maxHeartbeats 400000 in
theorem drawEvalPoly_any (A : Option Addr) (m c : Nat) (w : World) (hr : RowB w w.heap.size A m) (hc : m ≤ c) (hx : m ≤ 1048576) :
    Calls Try.prog 25 #[.slice A m c] w fun e w' => ∃ (xs : List Int) (A1 : Option Addr) (n c1 : Nat) (z : Int), (e = .returned (.tuple #[.slice A1 n c1, .int .i64 z]) ∧ I64 z) ∧ (n = xs.length ∧ n ≤ 8 ∧ n ≤ c1) ∧ Row w' w'.heap.size A1 xs ∧ Below w.heap.size w w' := by
  have C := Lib.hid (open_S A m c w hr hc hx)
  clear hr
  go_enter Try.func25, Try.ntmps25
  go_wp2_with fail
  refine C.out.mono ?_
  rintro e w1 ⟨m1, c1, rfl, S1, b1⟩
  have C1 := Lib.hid (l2Open_S S1 (by omega)); have B1 := Lib.hid b1; clear S1 b1 C
  go_wp2_with fail
  refine C1.out.mono ?_
  rintro e w2 ⟨xs, v, p2, rfl, hd, ⟨hp2, S2⟩, b2⟩
  obtain ⟨A1, n, c2, rfl, hn, h8, hcap, hrow, hne⟩ := hd
  have C2 := Lib.hid (l2Number_S S2 (by omega)); have B2 := Lib.hid (B1.out.trans b2)
  have R := Lib.hid hrow; have NE := Lib.hid hne; have N := Lib.hid hn; clear S2 b2 C1 hrow hne hn
  go_wp2_with fail
  refine C2.out.mono ?_
  rintro e w3 ⟨z, ⟨rfl, hz⟩, ho⟩
  have R2 := Lib.hid (R.out.only NE.out ho); have B3 := Lib.hid (B2.out.trans ho.below); have Z := Lib.hid hz
  clear ho hz C2
  go_wp2_with fail
  go_ret2
  exact ⟨xs, A1, n, c2, z, ⟨rfl, Z.out⟩, ⟨N.out, h8, hcap⟩, R2.out, B3.out⟩
end Go.Proofs.Ytbcmpgagceomgaa
