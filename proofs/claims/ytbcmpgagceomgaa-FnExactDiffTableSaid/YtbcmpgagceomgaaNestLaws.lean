/- The walks of what the exact laws do with lists of lists: comparing two that are alike, marking one, asking for the marks. -/
import Derived.Test.YtbcmpgagceomgaaNest
namespace Go.Proofs.Ytbcmpgagceomgaa
open Go.RowKit

/-- A callee that only draws, met inside a region that draws its order. -/
theorem quiet_d {P : Program} {f : FuncId} {args : Array Value} {w : World} {n : Nat} {v : Value}
    (h : Calls P f args (w.drewN n) fun e w' => e = .returned v ∧ ∃ m, w' = (w.drewN n).drewN m) : Calls P f args (w.drewN n) fun e w'' => e = .returned v ∧ ∃ m, w'' = w.drewN m :=
  h.mono fun _ _ ⟨he, m, hm⟩ => ⟨he, n + m, by rw [hm, World.drewN_drewN]⟩

set_option maxHeartbeats 1000000 in
theorem eqIntS_same (A A' : Option Addr) (n cap cap' : Nat) (xs : List Int) (w : World) (B B' : Nat) (hr : Row w B A xs) (hr' : Row w B' A' xs) (hn : n = xs.length) (hx : n ≤ 1000000000) :
    Calls Try.prog 12 #[.slice A n cap, .slice A' n cap'] w fun e w' => e = .returned (.bool true) ∧ ∃ m, w' = w.drewN m := by
  have R := Lib.hid hr; have R' := Lib.hid hr'; have N := Lib.hid hn; clear hr hr' hn
  have hlb : ((n : Int) != (n : Int)) = false := by simp
  go_enter Try.func12, Try.ntmps12
  go_wp2
  go_loopw [5] (fun i wr => ∃ k : Nat, k ≤ n ∧ i = .int .i64 k ∧ Hid (∃ m, wr = w.drewN m)) (fun i _ => n - (intOf i).toNat)
  case atStart => exact ⟨0, Nat.zero_le _, rfl, 0, rfl⟩
  case round =>
    obtain ⟨k, hk, rfl, W⟩ := hrel
    by_cases hlt : k < n
    · have hlx : k < xs.length := by have := N.out; omega
      have hb : ∀ B, Below B w wr := fun B => by obtain ⟨m, rfl⟩ := W.out; exact below_drewN (Below.refl B w) m
      obtain ⟨b, o, rfl, hbw, hc⟩ := (R.out.keep (hb _)) k hlx
      obtain ⟨b', o', rfl, hbw', hc'⟩ := (R'.out.keep (hb _)) k hlx
      have hq : (xs[k] != xs[k]) = false := by simp
      clear hb
      go_wp2
      go_quiet (fail)
      go_wp2
      go_roundw
      case rel => exact ⟨k + 1, by omega, by go_num, by obtain ⟨m, rfl⟩ := W.out; exact ⟨_, World.drewN_drewN _ _ _⟩⟩
      case measure => simp [intOf] <;> omega
    · obtain rfl : k = n := by omega
      go_wp2
      go_ret
      exact ⟨rfl, W.out⟩

theorem alike_len {es es' : List Ent} (h : es.map Ent.xs = es'.map Ent.xs) : es.length = es'.length := by simpa using congrArg List.length h
theorem alike_at {es es' : List Ent} (h : es.map Ent.xs = es'.map Ent.xs) {k : Nat} (h1 : k < es.length) (h2 : k < es'.length) : es[k].xs = es'[k].xs := by
  have e := congrArg (fun l => l[k]?) h
  simpa [List.getElem?_eq_getElem h1, List.getElem?_eq_getElem h2] using e

set_option maxHeartbeats 1000000 in
theorem eqIntSS_any (A A' : Option Addr) (n cap cap' lo hi lo' hi' : Nat) (es es' : List Ent) (w : World) (h : Nest w lo hi (.slice A n cap) es) (h' : Nest w lo' hi' (.slice A' n cap') es') (hhi : hi ≤ w.heap.size) (hhi' : hi' ≤ w.heap.size)
    (hx : es.map Ent.xs = es'.map Ent.xs) (hn : n ≤ 1000000) (hm : ∀ e ∈ es, e.xs.length ≤ 1000000) :
    Calls Try.prog 17 #[.slice A n cap, .slice A' n cap'] w fun e w' => e = .returned (.bool true) ∧ Calm w w' := by
  have hl := h.len
  have hl' := h'.len
  have R := Lib.hid h; have R' := Lib.hid h'; have X := Lib.hid hx; have M := Lib.hid hm; have L := Lib.hid hl; have L' := Lib.hid hl'; clear h h' hx hm hl hl'
  have hlb : ((n : Int) != (n : Int)) = false := by simp
  go_enter Try.func17, Try.ntmps17
  go_wp2
  go_loopw [5] (fun i wr => ∃ k : Nat, k ≤ n ∧ i = .int .i64 k ∧ Hid (Calm w wr)) (fun i _ => n - (intOf i).toNat)
  case atStart => exact ⟨0, Nat.zero_le _, rfl, Calm.refl w⟩
  case round =>
    obtain ⟨k, hk, rfl, W⟩ := hrel
    by_cases hlt : k < n
    · have k1 : k < es.length := by have := L.out; omega
      have k2 : k < es'.length := by have := L'.out; omega
      have q := R.out.below W.out.to hhi
      have q' := R'.out.below W.out.to hhi'
      obtain ⟨g, rfl, hc⟩ := q.at_ k1
      obtain ⟨g', rfl, hc'⟩ := q'.at_ k2
      have r1 := q.row k1
      have r2 := q'.row k2
      have ex := alike_at X.out k1 k2
      have hm := M.out _ (List.getElem_mem k1)
      generalize es[k] = e1 at *
      generalize es'[k] = e2 at *
      obtain ⟨g1, c1, x1⟩ := e1
      obtain ⟨g2, c2, x2⟩ := e2
      obtain rfl : x1 = x2 := ex
      obtain ⟨m, em⟩ : ∃ m, m = x1.length := ⟨_, rfl⟩
      simp only [Ent.v, ← em] at hc hc' r1 r2 hm
      have EM := Lib.hid em
      have C := Lib.hid (fun a => eqIntS_same (some ⟨g1, 0, none⟩) (some ⟨g2, 0, none⟩) m c1 c2 x1 (wr.drewN a) _ _ (r1.row.keep (below_drewN (Below.refl _ wr) a)) (r2.row.keep (below_drewN (Below.refl _ wr) a)) EM.out (by omega))
      clear q q' r1 r2 em
      go_wp2
      go_quiet ((go_at_call 12; exact quiet_d (C.out _)))
      go_wp2
      go_roundw
      case rel => exact ⟨k + 1, by omega, by go_num, W.out.drewN _⟩
      case measure => simp [intOf] <;> omega
    · obtain rfl : k = n := by omega
      go_wp2
      go_ret
      exact ⟨rfl, W.out⟩

/-- How many numbers the rows hold. -/
def total : List Ent → Nat
  | [] => 0
  | e :: r => e.xs.length + total r
theorem total_app (a b : List Ent) : total (a ++ b) = total a + total b := by
  induction a with
  | nil => simp [total]
  | cons e r ih => simp only [List.cons_append, total, ih]; omega
theorem total_take (es : List Ent) (k : Nat) (h : k < es.length) : total (es.take (k + 1)) = total (es.take k) + es[k].xs.length := by
  rw [List.take_succ_eq_append_getElem h, total_app]; rfl
theorem total_le (es : List Ent) (k : Nat) : total (es.take k) ≤ total es := by
  have := total_app (es.take k) (es.drop k)
  rw [List.take_append_drop] at this
  omega
/-- The rows, with the marks from k on in place of their numbers. -/
def markE (k : Int) : List Ent → List Ent
  | [] => []
  | e :: r => ⟨e.g, e.c, marks k e.xs.length⟩ :: markE (k + e.xs.length) r
theorem markE_length (k : Int) (es : List Ent) : (markE k es).length = es.length := by
  induction es generalizing k with
  | nil => rfl
  | cons e r ih => simp [markE, ih]
theorem markE_snoc (k : Int) (es : List Ent) (e : Ent) : markE k (es ++ [e]) = markE k es ++ [⟨e.g, e.c, marks (k + total es) e.xs.length⟩] := by
  induction es generalizing k with
  | nil => simp [markE, total]
  | cons a r ih =>
    have q : k + (a.xs.length : Int) + (total r : Int) = k + ((a.xs.length + total r : Nat) : Int) := by omega
    simp only [List.cons_append, markE, ih, total, q]
theorem markE_at (k : Int) (es : List Ent) (j : Nat) (h : j < es.length) (h' : j < (markE k es).length) : (markE k es)[j] = ⟨es[j].g, es[j].c, marks (k + total (es.take j)) es[j].xs.length⟩ := by
  induction es generalizing k j with
  | nil => simp at h
  | cons e r ih =>
    cases j with
    | zero => simp [markE, total]
    | succ j =>
      simp only [markE, List.getElem_cons_succ, List.take_succ_cons, total]
      rw [ih (k + e.xs.length) j (by simpa using h) (by rw [markE_length]; simpa using h)]
      congr 2
      omega
/-- The state of the marking. -/
def overE (k : Int) (es : List Ent) (j : Nat) : List Ent := markE k (es.take j) ++ es.drop j
theorem overE_length (k : Int) (es : List Ent) (j : Nat) (h : j ≤ es.length) : (overE k es j).length = es.length := by
  unfold overE; rw [List.length_append, markE_length, List.length_take, List.length_drop]; omega
theorem overE_parts (k : Int) (es : List Ent) (j : Nat) (h : j < es.length) :
    overE k es j = markE k (es.take j) ++ es[j] :: es.drop (j + 1) ∧ overE k es (j + 1) = markE k (es.take j) ++ ⟨es[j].g, es[j].c, marks (k + total (es.take j)) es[j].xs.length⟩ :: es.drop (j + 1) := by
  unfold overE
  refine ⟨by rw [List.drop_eq_getElem_cons h], ?_⟩
  rw [List.take_succ_eq_append_getElem h, markE_snoc, List.append_assoc]
  rfl
theorem overE_at (k : Int) (es : List Ent) (j : Nat) (h : j < es.length) (h' : j < (overE k es j).length) : (overE k es j)[j] = es[j] := by
  apply Option.some.inj
  rw [← List.getElem?_eq_getElem h', ← List.getElem?_eq_getElem h]
  unfold overE
  rw [List.getElem?_append_right (by rw [markE_length, List.length_take]; omega), markE_length, List.length_take, Nat.min_eq_left (by omega), Nat.sub_self, List.getElem?_drop]
  rfl

set_option maxHeartbeats 1000000 in
theorem markIntSS_any (A : Option Addr) (n cap lo hi : Nat) (es : List Ent) (k : Int) (w : World) (h : Nest w lo hi (.slice A n cap) es) (hn : n ≤ 1000000) (ht : total es ≤ 1000000) (k0 : 0 ≤ k) (k1 : k ≤ 1000000) :
    Calls Try.prog 18 #[.slice A n cap, .int .i64 k] w fun e w' => e = .returned (.int .i64 (k + total es)) ∧ Nest w' lo hi (.slice A n cap) (markE k es) ∧ (∀ B, B ≤ lo → B ≤ w.heap.size → Below B w w') ∧ w.heap.size ≤ w'.heap.size := by
  have hl := h.len
  have N := Lib.hid hl; have O := Lib.hid h; clear hl h
  go_enter Try.func18, Try.ntmps18
  go_wp2
  go_loopw [1, 5] (fun kk i wr => ∃ j : Nat, j ≤ n ∧ i = .int .i64 j ∧ kk = .int .i64 (k + total (es.take j)) ∧ Nest wr lo hi (.slice A n cap) (overE k es j) ∧ (∀ B, B ≤ lo → B ≤ w.heap.size → Below B w wr) ∧ w.heap.size ≤ wr.heap.size) (fun _ i _ => n - (intOf i).toNat)
  case atStart => exact ⟨0, Nat.zero_le _, rfl, by simp [total], by simpa [overE, markE] using O.out, fun B _ _ => Below.refl B w, Nat.le_refl _⟩
  case round =>
    obtain ⟨j, hj, rfl, rfl, ho, hb, hs⟩ := hrel
    by_cases hlt : j < n
    · have j1 : j < es.length := by have := N.out; omega
      have j2 : j < (overE k es j).length := by rw [overE_length _ _ _ (Nat.le_of_lt j1)]; exact j1
      obtain ⟨g, rfl, hc⟩ := ho.at_ j2
      have hr := ho.row j2
      rw [overE_at k es j j1 j2] at hc hr
      obtain ⟨p1, p2⟩ := overE_parts k es j j1
      rw [p1] at ho
      have et := total_take es j j1
      have t1 := total_le es (j + 1)
      have MK : Hid (∀ w' : World, Own w' lo hi es[j].v (marks (k + total (es.take j)) es[j].xs.length) → wr.grownBy w' es[j].v.ownBlock → Nest w' lo hi (.slice (some ⟨g, 0, none⟩) n cap) (overE k es (j + 1)) ∧ (∀ B, B ≤ lo → B ≤ w.heap.size → Below B w w') ∧ w.heap.size ≤ w'.heap.size) := by
        intro w' hw hg
        refine ⟨by rw [p2]; exact ho.marked hw (by rw [marks_length]) hg, fun B h1 h2 => ?_, Nat.le_trans hs hg.size⟩
        exact (hb B h1 h2).grown hg (Nat.le_trans h2 hs) fun x hx => Nat.le_trans h1 (hr.blk x hx).1
      clear ho hb p1 p2
      generalize es[j] = e1 at *
      obtain ⟨g1, c1, x1⟩ := e1
      obtain ⟨m, em⟩ : ∃ m, m = x1.length := ⟨_, rfl⟩
      simp only [Ent.v, ← em] at hc hr MK et
      generalize total (es.take j) = tj at *
      rw [et] at t1
      have EM := Lib.hid em; have ET := Lib.hid et
      have C := Lib.hid (markIntS_any (some ⟨g1, 0, none⟩) m c1 x1 (k + tj) wr lo hi EM.out hr (by omega) (by omega) (by omega))
      clear hr em et
      go_wp2_with (go_at_call 13; refine C.out.mono ?_; rintro e w' ⟨rfl, o2, g2⟩; have T := Lib.hid (MK.out w' o2 g2); clear o2 g2)
      go_roundw
      case rel => exact ⟨j + 1, by omega, by go_num, by rw [ET.out]; congr 1; omega, T.out.1, T.out.2.1, T.out.2.2⟩
      case measure => simp [intOf] <;> omega
    · obtain rfl : j = n := by omega
      have hov : overE k es j = markE k es ∧ total (es.take j) = total es := by
        have e : es.take j = es := List.take_of_length_le (by have := N.out; omega)
        refine ⟨?_, by rw [e]⟩
        unfold overE
        rw [e, List.drop_eq_nil_of_le (by have := N.out; omega), List.append_nil]
      rw [hov.1] at ho
      have E := Lib.hid hov.2; have P := Lib.hid ho; have G := Lib.hid hb; clear ho hb hov
      go_wp2
      go_ret
      exact ⟨ret_int (by rw [E.out]), P.out, G.out, hs⟩

set_option maxHeartbeats 1000000 in
theorem heldIntSS_any (A : Option Addr) (n cap lo hi : Nat) (es : List Ent) (k : Int) (w : World) (h : Nest w lo hi (.slice A n cap) (markE k es)) (hn : n ≤ 1000000) (ht : total es ≤ 1000000) (k0 : 0 ≤ k) (k1 : k ≤ 1000000) :
    Calls Try.prog 19 #[.slice A n cap, .int .i64 k] w fun e w' => e = .returned (.int .i64 (k + total es)) ∧ w = w' := by
  have hl := h.len
  rw [markE_length] at hl
  have N := Lib.hid hl; have O := Lib.hid h; clear hl h
  go_enter Try.func19, Try.ntmps19
  go_wp2
  go_loop [1, 5] (fun kk i => ∃ j : Nat, j ≤ n ∧ i = .int .i64 j ∧ kk = .int .i64 (k + total (es.take j))) (fun _ i => n - (intOf i).toNat)
  case atStart => exact ⟨0, Nat.zero_le _, rfl, by simp [total]⟩
  case round =>
    obtain ⟨j, hj, rfl, rfl⟩ := hrel
    by_cases hlt : j < n
    · have j1 : j < es.length := by have := N.out; omega
      have j2 : j < (markE k es).length := by rw [markE_length]; exact j1
      obtain ⟨g, rfl, hc⟩ := O.out.at_ j2
      have hr := O.out.row j2
      rw [markE_at k es j j1 j2] at hc hr
      have et := total_take es j j1
      have t1 := total_le es (j + 1)
      generalize es[j] = e1 at *
      obtain ⟨g1, c1, x1⟩ := e1
      obtain ⟨m, em⟩ : ∃ m, m = x1.length := ⟨_, rfl⟩
      simp only [Ent.v, ← em, marks_length] at hc hr et
      generalize htj : total (es.take j) = tj at *
      rw [et] at t1
      have ET := Lib.hid et
      have hneg : ¬ (k + tj + m < 0) := by omega
      have C := Lib.hid (heldIntS_any (some ⟨g1, 0, none⟩) m c1 (k + tj) w hi hr.row (by omega) (by omega) (by omega))
      clear hr em et htj
      go_wp2_with (go_at_call 14; refine C.out.mono ?_; rintro e w' ⟨rfl, rfl⟩)
      go_round
      case rel => exact ⟨j + 1, by omega, by go_num, by rw [ET.out]; congr 1; omega⟩
      case measure => simp [intOf] <;> omega
    · obtain rfl : j = n := by omega
      have E : Hid (total (es.take j) = total es) := by
        show _ = _
        rw [List.take_of_length_le (by have := N.out; omega)]
      go_wp2
      go_ret
      exact ⟨ret_int (by rw [E.out]), rfl⟩
end Go.Proofs.Ytbcmpgagceomgaa
