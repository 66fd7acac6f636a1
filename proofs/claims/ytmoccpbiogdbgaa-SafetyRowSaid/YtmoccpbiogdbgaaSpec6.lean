/-
  What is wrong with an output (layer 29), in plain Lean: as the program's text goes, as the reference's; they are one; what shows less is not worse.
-/
import Derived.Test.YtmoccpbiogdbgaaSpec5
import Derived.Test.YtmoccpbiogdbgaaP1
import Derived.Test.YtmoccpbiogdbgaaW18
import Derived.Test.YtmoccpbiogdbgaaW13
namespace Go.Proofs.Ytmoccpbiogdbgaa
open Go.RowKit

/-- The members of a row whose places are in a set. -/
def pick {α : Type} (x : Nat) : List α → Nat → List α
  | [], _ => []
  | y :: ys, i => if x.testBit i = true then y :: pick x ys (i + 1) else pick x ys (i + 1)
theorem pick_snoc {α : Type} (x : Nat) (xs : List α) (y : α) : ∀ i, pick x (xs ++ [y]) i = pick x xs i ++ (if x.testBit (i + xs.length) = true then [y] else []) := by
  induction xs with
  | nil => intro i; simp [pick]
  | cons z zs ih =>
    intro i
    simp only [List.cons_append, pick, ih, List.length_cons]
    have : i + 1 + zs.length = i + (zs.length + 1) := by omega
    rw [this]
    split <;> simp
theorem pick_take {α : Type} (x : Nat) (xs : List α) (k : Nat) (h : k < xs.length) : pick x (xs.take (k + 1)) 0 = pick x (xs.take k) 0 ++ (if x.testBit k = true then [xs[k]] else []) := by
  rw [takeStep h, pick_snoc]; simp [Nat.min_eq_left (Nat.le_of_lt h)]
theorem pick_len {α : Type} (x : Nat) (xs : List α) : ∀ i, (pick x xs i).length ≤ xs.length := by
  induction xs with
  | nil => intro i; simp [pick]
  | cons y ys ih => intro i; unfold pick; split <;> simp <;> have := ih (i + 1) <;> omega
theorem pick_mem {α : Type} (x : Nat) (xs : List α) : ∀ i y, y ∈ pick x xs i ↔ ∃ k, ∃ h : k < xs.length, xs[k] = y ∧ x.testBit (i + k) = true := by
  induction xs with
  | nil => intro i y; simp [pick]
  | cons z zs ih =>
    intro i y
    unfold pick
    constructor
    · intro h
      split at h
      · rcases List.mem_cons.1 h with rfl | h
        · exact ⟨0, by simp, rfl, by simpa⟩
        · obtain ⟨k, hk, he, hb⟩ := (ih _ _).1 h
          exact ⟨k + 1, by simp; omega, by simpa using he, by rw [show i + (k + 1) = i + 1 + k by omega]; exact hb⟩
      · obtain ⟨k, hk, he, hb⟩ := (ih _ _).1 h
        exact ⟨k + 1, by simp; omega, by simpa using he, by rw [show i + (k + 1) = i + 1 + k by omega]; exact hb⟩
    · rintro ⟨k, hk, he, hb⟩
      cases k with
      | zero =>
        simp at he hb
        subst he
        rw [if_pos hb]; exact List.mem_cons_self
      | succ k =>
        have : y ∈ pick x zs (i + 1) := (ih _ _).2 ⟨k, by simpa using hk, by simpa using he, by rw [show i + 1 + k = i + (k + 1) by omega]; exact hb⟩
        split
        · exact List.mem_cons_of_mem _ this
        · exact this
theorem pick_zero {α : Type} (xs : List α) : ∀ i, pick 0 xs i = [] := by
  induction xs with
  | nil => intro i; rfl
  | cons y ys ih => intro i; simp [pick, ih]

/-! ### What the program looks at -/
def rtAt (l : Ly) (n : Nat) : Option Rt := l.routes[n]?
/-- Do two routes conflict, by their numbers? -/
def pairB (l : Ly) (a b : Int) : Bool :=
  decide (0 ≤ a ∧ 0 ≤ b ∧ a < l.routes.length ∧ b < l.routes.length ∧ a ≠ b) && (mayB l &&
    match l.routes[a.toNat]?, l.routes[b.toNat]? with
    | some x, some y => conflictB l x y
    | _, _ => false)
def numsOf (l : Ly) (pro : Nat) : List Int := pick pro ((List.range l.routes.length).map Int.ofNat) 0
def shownOf (l : Ly) (pro : Nat) : List Rt := pick pro l.routes 0
def clashP (l : Ly) (pro : Nat) : Bool := (numsOf l pro).any fun a => (numsOf l pro).any fun b => pairB l a b
def occP (l : Ly) (io : Io) : Bool := (shownOf l io.pro).any fun r => r.track.any fun s => hasU io.occ s
def undetP (l : Ly) (io : Io) : Bool := (shownOf l io.pro).any fun r => r.needs.any fun n => !hasU (if n.rev = true then sideR io else sideN io) n.pt
def turnP (l : Ly) (io : Io) : Bool := (shownOf l io.pro).any fun r => r.needs.any fun n => hasU io.pts n.pt != n.rev
/-- Are routes shown, or points commanded, that are not there? -/
def unknownP (l : Ly) (io : Io) : Bool := (decide (l.routes.length < 64) && decide (io.pro / 2 ^ l.routes.length ≠ 0)) || decide (io.pts / 2 ^ l.points.length ≠ 0)
def wrongP (l : Ly) (io : Io) : Nat := if clashP l io.pro = true then 3 else if occP l io = true then 4 else if undetP l io = true then 5 else if turnP l io = true then 6 else 0
def cycleP (l : Ly) (io : Io) : Nat := if (checkB l).1 ≠ 0 then 1 else if unknownP l io = true then 2 else wrongP l io

/-! ### The reference -/
def clashR (l : Ly) : List Rt → List Rt → Bool
  | _, [] => false
  | pre, r :: rs => (pre.any fun y => refConflictB l r y) || clashR l (pre ++ [r]) rs
def liesR (rs : List Rt) (a b : Nat) : Bool := rs.all fun r => r.needs.all fun n => hasU (if n.rev = true then b else a) n.pt
def unknownR (l : Ly) (io : Io) : Bool :=
  decide (io.pro &&& (18446744073709551615 - firstN l.routes.length) ≠ 0) || decide (io.pts &&& (4294967295 - firstN l.points.length % 4294967296) ≠ 0)
def wrongR (l : Ly) (io : Io) : Nat :=
  if clashR l [] (shownOf l io.pro) = true then 3 else if occP l io = true then 4 else if liesR (shownOf l io.pro) (sideN io) (sideR io) = false then 5
  else if liesR (shownOf l io.pro) (4294967295 - io.pts) io.pts = false then 6 else 0
def cycleR (l : Ly) (io : Io) : Nat := if (checkB l).1 ≠ 0 then 1 else if unknownR l io = true then 2 else wrongR l io

/-! ### They are one -/
theorem bit_big {x n i : Nat} (h : x < 2 ^ n) (hi : n ≤ i) : x.testBit i = false := Nat.testBit_lt_two_pow (Nat.lt_of_lt_of_le h (Nat.pow_le_pow_right (by decide) hi))
theorem beyond (x n N : Nat) (hx : x < 2 ^ N) (hn : n ≤ N) : (x &&& (2 ^ N - (2 ^ n - 1 + 1)) = 0) ↔ x / 2 ^ n = 0 := by
  have hp : 2 ^ n - 1 < 2 ^ N := Nat.lt_of_lt_of_le (Nat.sub_lt (Nat.two_pow_pos n) (by decide)) (Nat.pow_le_pow_right (by decide) hn)
  constructor
  · intro h
    refine Nat.eq_of_testBit_eq fun i => ?_
    rw [Nat.testBit_div_two_pow, Nat.zero_testBit]
    by_cases hi : i + n < N
    · have h1 := congrArg (fun y => Nat.testBit y (i + n)) h
      simp only [Nat.testBit_and, Nat.testBit_two_pow_sub_succ hp, Nat.testBit_two_pow_sub_one, Nat.zero_testBit] at h1
      have h2 : ¬ i + n < n := by omega
      simpa [hi, h2] using h1
    · exact bit_big hx (by omega)
  · intro h
    have hlt : x < 2 ^ n := by
      rcases Nat.div_eq_zero_iff.1 h with h | h
      · have := Nat.two_pow_pos n; omega
      · exact h
    refine Nat.eq_of_testBit_eq fun i => ?_
    rw [Nat.testBit_and, Nat.testBit_two_pow_sub_succ hp, Nat.testBit_two_pow_sub_one, Nat.zero_testBit]
    by_cases hi : i < n
    · simp [hi]
    · rw [bit_big hlt (by omega)]; rfl
theorem pow_le64 {n : Nat} (h : n ≤ 64) : 2 ^ n ≤ 18446744073709551616 := Nat.pow_le_pow_right (n := 2) (by decide) h
theorem unknown_eq (l : Ly) (io : Io) (h1 : io.pro < 18446744073709551616) (h2 : io.pts < 4294967296) (hr : l.routes.length ≤ 64) (hp : l.points.length ≤ 32) : unknownP l io = unknownR l io := by
  unfold unknownP unknownR firstN
  have e1 : 18446744073709551615 - (2 ^ min l.routes.length 64 - 1) = 2 ^ 64 - (2 ^ l.routes.length - 1 + 1) := by rw [Nat.min_eq_left hr]; omega
  have e2 : 4294967295 - (2 ^ min l.points.length 64 - 1) % 4294967296 = 2 ^ 32 - (2 ^ l.points.length - 1 + 1) := by
    rw [Nat.min_eq_left (by omega)]
    have : 2 ^ l.points.length ≤ 4294967296 := Nat.pow_le_pow_right (n := 2) (by decide) hp
    have h0 := Nat.two_pow_pos l.points.length
    rw [Nat.mod_eq_of_lt (by omega)]; omega
  rw [e1, e2]
  have b1 := beyond io.pro l.routes.length 64 (by simpa using h1) hr
  have b2 := beyond io.pts l.points.length 32 (by simpa using h2) hp
  have g1 : decide (io.pro &&& (2 ^ 64 - (2 ^ l.routes.length - 1 + 1)) ≠ 0) = decide (io.pro / 2 ^ l.routes.length ≠ 0) := decide_eq_decide.2 (not_congr b1)
  have g2 : decide (io.pts &&& (2 ^ 32 - (2 ^ l.points.length - 1 + 1)) ≠ 0) = decide (io.pts / 2 ^ l.points.length ≠ 0) := decide_eq_decide.2 (not_congr b2)
  rw [g1, g2]
  congr 1
  by_cases h : l.routes.length < 64
  · simp [h]
  · have e : l.routes.length = 64 := by omega
    have : io.pro / 2 ^ l.routes.length = 0 := by rw [e]; exact Nat.div_eq_of_lt (by simpa using h1)
    simp [this]
theorem hasI_comm (xs ys : List Int) : (xs.any fun s => hasI s ys) = (ys.any fun s => hasI s xs) := by
  rw [Bool.eq_iff_iff]; simp only [List.any_eq_true, hasI, beq_iff_eq]
  exact ⟨fun ⟨x, hx, y, hy, e⟩ => ⟨y, hy, x, hx, e.symm⟩, fun ⟨x, hx, y, hy, e⟩ => ⟨y, hy, x, hx, e.symm⟩⟩
theorem conflict_comm (l : Ly) (a b : Rt) : conflictB l a b = conflictB l b a := by
  have hp : ∀ p i, ptMeet a b p i = ptMeet b a p i := by
    intro p i
    unfold ptMeet
    cases needs? i a <;> cases needs? i b <;> cases rev? i a <;> cases rev? i b <;> cases hasI p.sec a.track <;> cases hasI p.sec b.track <;> rfl
  unfold conflictB
  rw [hasI_comm a.track b.track, anyPt_congr hp]
  congr 1
  rw [decide_eq_decide]; exact eq_comm
theorem clashR_iff (l : Ly) : ∀ (rs pre : List Rt), clashR l pre rs = true ↔ ∃ i k, ∃ (hi : i < (pre ++ rs).length) (hk : k < i), pre.length ≤ i ∧ refConflictB l (pre ++ rs)[i] (pre ++ rs)[k] = true := by
  intro rs
  induction rs with
  | nil =>
    intro pre
    simp only [clashR, List.append_nil]
    constructor
    · intro h; cases h
    · rintro ⟨i, k, hi, hk, h, _⟩; omega
  | cons r rs ih =>
    intro pre
    simp only [clashR, Bool.or_eq_true, List.any_eq_true]
    have hsame : pre ++ [r] ++ rs = pre ++ r :: rs := by simp
    constructor
    · rintro (⟨y, hy, hc⟩ | h)
      · obtain ⟨k, hk, rfl⟩ := List.mem_iff_getElem.1 hy
        refine ⟨pre.length, k, by simp, hk, Nat.le_refl _, ?_⟩
        rw [List.getElem_append_right (Nat.le_refl _), List.getElem_append_left hk]
        simpa using hc
      · obtain ⟨i, k, hi, hk, hp, hc⟩ := (ih _).1 h
        simp only [hsame] at hi hc
        exact ⟨i, k, hi, hk, by simp at hp; omega, hc⟩
    · rintro ⟨i, k, hi, hk, hp, hc⟩
      by_cases he : i = pre.length
      · subst he
        left
        rw [List.getElem_append_right (Nat.le_refl _), List.getElem_append_left hk] at hc
        exact ⟨pre[k], List.getElem_mem _, by simpa using hc⟩
      · right
        exact (ih _).2 ⟨i, k, by rw [hsame]; exact hi, hk, by simp; omega, by simp only [hsame]; exact hc⟩
theorem pick_map {α β : Type} (x : Nat) (f : α → β) (xs : List α) : ∀ i, pick x (xs.map f) i = (pick x xs i).map f := by
  induction xs with
  | nil => intro i; rfl
  | cons y ys ih => intro i; simp only [List.map_cons, pick, ih]; split <;> simp
theorem pick_sub {α : Type} (x : Nat) (xs : List α) : ∀ i, (pick x xs i).Sublist xs := by
  induction xs with
  | nil => intro i; exact List.Sublist.slnil
  | cons y ys ih =>
    intro i
    unfold pick
    split
    · exact (ih (i + 1)).cons_cons y
    · exact (ih (i + 1)).cons y
theorem pick_and {α : Type} (x z : Nat) (xs : List α) : ∀ i, (pick (x &&& z) xs i).Sublist (pick x xs i) := by
  induction xs with
  | nil => intro i; exact List.Sublist.slnil
  | cons y ys ih =>
    intro i
    unfold pick
    rw [Nat.testBit_and]
    cases x.testBit i <;> cases z.testBit i <;> simp only [Bool.and_true, Bool.and_false, if_true, Bool.false_eq_true, if_false]
    · exact ih (i + 1)
    · exact ih (i + 1)
    · exact (ih (i + 1)).cons y
    · exact (ih (i + 1)).cons_cons y
def rt0 : Rt := ⟨ByteArray.empty, 0, [], [], [], []⟩
theorem routes_range (l : Ly) : l.routes = (List.range l.routes.length).map (fun k => l.routes.getD k rt0) := by
  apply List.ext_getElem
  · simp
  · intro i h1 h2
    simp [h1]
def placesOf (l : Ly) (pro : Nat) : List Nat := pick pro (List.range l.routes.length) 0
theorem shown_places (l : Ly) (pro : Nat) : shownOf l pro = (placesOf l pro).map (fun k => l.routes.getD k rt0) := by
  unfold shownOf placesOf
  rw [← pick_map, ← routes_range]
theorem nums_places (l : Ly) (pro : Nat) : numsOf l pro = (placesOf l pro).map Int.ofNat := by
  unfold numsOf placesOf
  rw [← pick_map]
theorem places_lt (l : Ly) (pro : Nat) : ∀ k ∈ placesOf l pro, k < l.routes.length := fun _ hk => List.mem_range.1 ((pick_sub _ _ _).subset hk)
theorem places_sorted (l : Ly) (pro : Nat) : (placesOf l pro).Pairwise (· < ·) := List.pairwise_lt_range.sublist (pick_sub _ _ _)
theorem pairB_of (l : Ly) (hm : mayB l = true) (a b : Nat) (ha : a < l.routes.length) (hb : b < l.routes.length) : pairB l (Int.ofNat a) (Int.ofNat b) = (decide (a ≠ b) && conflictB l (l.routes.getD a rt0) (l.routes.getD b rt0)) := by
  unfold pairB
  simp [hm, ha, hb]
  rw [show decide ((a : Int) = (b : Int)) = decide (a = b) from decide_eq_decide.2 (by omega)]
theorem clash_eq (l : Ly) (pro : Nat) (hm : mayB l = true) : clashP l pro = clashR l [] (shownOf l pro) := by
  rw [Bool.eq_iff_iff, clashR_iff]
  simp only [List.nil_append, List.length_nil, Nat.zero_le, true_and]
  unfold clashP
  rw [nums_places]
  simp only [List.any_map, List.any_eq_true, Function.comp]
  have hlt := places_lt l pro
  have hs := places_sorted l pro
  constructor
  · rintro ⟨a, ha, b, hb, h⟩
    rw [pairB_of l hm a b (hlt a ha) (hlt b hb)] at h
    simp only [Bool.and_eq_true, decide_eq_true_eq] at h
    obtain ⟨hne, hc⟩ := h
    obtain ⟨i, hi, rfl⟩ := List.mem_iff_getElem.1 ha
    obtain ⟨k, hk, rfl⟩ := List.mem_iff_getElem.1 hb
    rcases Nat.lt_trichotomy i k with h | h | h
    · refine ⟨k, i, by rw [shown_places]; simpa using hk, h, ?_⟩
      simp only [shown_places, List.getElem_map]
      rw [← conflict_eq, conflict_comm]; exact hc
    · subst h; exact absurd rfl hne
    · refine ⟨i, k, by rw [shown_places]; simpa using hi, h, ?_⟩
      simp only [shown_places, List.getElem_map]
      rw [← conflict_eq]; exact hc
  · rintro ⟨i, k, hi, hk, hc⟩
    have hi' : i < (placesOf l pro).length := by rw [shown_places] at hi; simpa using hi
    have hk' : k < (placesOf l pro).length := by omega
    simp only [shown_places, List.getElem_map] at hc
    refine ⟨_, List.getElem_mem hi', _, List.getElem_mem hk', ?_⟩
    rw [pairB_of l hm _ _ (hlt _ (List.getElem_mem _)) (hlt _ (List.getElem_mem _)), conflict_eq, hc]
    have := List.pairwise_iff_getElem.1 hs k i hk' hi' hk
    simp; omega
theorem check_zero (l : Ly) (h : (checkB l).1 = 0) : mayB l = true := by
  unfold checkB at h
  cases hm : mayB l
  · rw [hm] at h; simp at h
  · rfl
theorem shown_needs (l : Ly) (hm : mayB l = true) (pro : Nat) : ∀ r ∈ shownOf l pro, ∀ n ∈ r.needs, 0 ≤ n.pt ∧ n.pt < 32 := by
  intro r hr n hn
  obtain ⟨⟨_, hp, _, _⟩, _, _, hrt⟩ := may_facts l hm
  have h := hrt r ((pick_sub _ _ _).subset hr)
  unfold rtIn at h
  simp only [Bool.and_eq_true] at h
  obtain ⟨_, _, _, h3, h4⟩ := h
  unfold inB inR ptsOf at h3 h4
  simp only [Bool.and_eq_true, List.all_map, List.all_eq_true, Function.comp, decide_eq_true_eq] at h3 h4
  unfold Rt.needs at hn
  rcases List.mem_append.1 hn with hn | hn
  · have := h3.2 n hn; omega
  · have := h4.2 n hn; omega
theorem lies_not (rs : List Rt) (a b : Nat) : (rs.any fun r => r.needs.any fun n => !hasU (if n.rev = true then b else a) n.pt) = !liesR rs a b := by
  unfold liesR
  simp only [List.not_all_eq_any_not]
theorem turn_eq (rs : List Rt) (pts : Nat) (h : ∀ r ∈ rs, ∀ n ∈ r.needs, 0 ≤ n.pt ∧ n.pt < 32) (hp : pts < 4294967296) :
    (rs.any fun r => r.needs.any fun n => hasU pts n.pt != n.rev) = !liesR rs (4294967295 - pts) pts := by
  rw [← lies_not]
  rw [Bool.eq_iff_iff]
  simp only [List.any_eq_true]
  have key : ∀ r ∈ rs, ∀ n ∈ r.needs, (hasU pts n.pt != n.rev) = !hasU (if n.rev = true then pts else 4294967295 - pts) n.pt := by
    intro r hr n hn
    obtain ⟨h0, h1⟩ := h r hr n hn
    cases n.rev
    · simp only [Bool.false_eq_true, if_false]
      have e : 4294967295 - pts = 2 ^ 32 - (pts + 1) := by omega
      have : n.pt.toNat < 32 := by omega
      unfold hasU
      rw [e, Nat.testBit_two_pow_sub_succ (by simpa using hp)]
      simp [h0, this]
    · simp
  constructor
  · rintro ⟨r, hr, n, hn, e⟩; exact ⟨r, hr, n, hn, by rw [← key r hr n hn]; exact e⟩
  · rintro ⟨r, hr, n, hn, e⟩; exact ⟨r, hr, n, hn, by rw [key r hr n hn]; exact e⟩
theorem cycle_eq (l : Ly) (io : Io) (h1 : io.pro < 18446744073709551616) (h2 : io.pts < 4294967296) : cycleP l io = cycleR l io := by
  unfold cycleP cycleR
  by_cases hc : (checkB l).1 ≠ 0
  · rw [if_pos hc, if_pos hc]
  · rw [if_neg hc, if_neg hc]
    have hm := check_zero l (by simpa using hc)
    obtain ⟨⟨_, hp, _, hr⟩, _⟩ := may_facts l hm
    rw [unknown_eq l io h1 h2 hr hp]
    congr 1
    unfold wrongP wrongR
    rw [clash_eq l io.pro hm]
    unfold undetP turnP
    rw [lies_not, turn_eq _ _ (shown_needs l hm io.pro) h2]
    simp only [Bool.not_eq_true']

/-! ### What shows less is not worse -/
theorem any_sub {α : Type} {xs ys : List α} (h : xs.Sublist ys) (p : α → Bool) (hy : ys.any p = false) : xs.any p = false := by
  rw [List.any_eq_false] at *
  exact fun x hx => hy x (h.subset hx)
def Io.less (io : Io) (f : Nat) : Io := { io with pro := io.pro &&& f }
theorem wrong_less (l : Ly) (io : Io) (f : Nat) (h : wrongP l io = 0) : wrongP l (io.less f) = 0 := by
  unfold wrongP at *
  have hs : (shownOf l (io.less f).pro).Sublist (shownOf l io.pro) := pick_and _ _ _ _
  have hn : (numsOf l (io.less f).pro).Sublist (numsOf l io.pro) := pick_and _ _ _ _
  split at h
  · cases h
  rename_i h1
  split at h
  · cases h
  rename_i h2
  split at h
  · cases h
  rename_i h3
  split at h
  · cases h
  rename_i h4
  have g1 : clashP l (io.less f).pro = false := by
    have h1 : clashP l io.pro = false := by simpa using h1
    unfold clashP at *
    rw [List.any_eq_false] at *
    intro a ha
    have := h1 a (hn.subset ha)
    rw [Bool.not_eq_true] at *
    exact any_sub hn _ this
  have g2 : occP l (io.less f) = false := any_sub hs (fun r => r.track.any fun s => hasU io.occ s) (by simpa [occP] using h2)
  have g3 : undetP l (io.less f) = false := any_sub hs (fun r => r.needs.any fun n => !hasU (if n.rev = true then sideR io else sideN io) n.pt) (by simpa [undetP] using h3)
  have g4 : turnP l (io.less f) = false := any_sub hs (fun r => r.needs.any fun n => hasU io.pts n.pt != n.rev) (by simpa [turnP] using h4)
  rw [g1, g2, g3, g4]; rfl
theorem cycle_less (l : Ly) (io : Io) (f : Nat) (h : cycleP l io = 0) : cycleP l (io.less f) = 0 := by
  unfold cycleP at *
  split at h
  · cases h
  rename_i h1
  split at h
  · cases h
  rename_i h2
  rw [if_neg h1]
  have : unknownP l (io.less f) = false := by
    have h2 : unknownP l io = false := by simpa using h2
    unfold unknownP at *
    simp only [Bool.or_eq_false_iff, Bool.and_eq_false_iff, decide_eq_false_iff_not, Classical.not_not] at *
    refine ⟨h2.1.imp id fun h => ?_, h2.2⟩
    have : (io.less f).pro ≤ io.pro := Nat.and_le_left
    exact Nat.le_zero.1 (h ▸ Nat.div_le_div_right this)
  rw [this]
  simpa using wrong_less l io f h
/-- No route is shown, and no point is commanded that is not there. -/
def Io.none (io : Io) (l : Ly) : Io := { io with pro := 0, pts := io.pts &&& (firstN (min l.points.length 32) % 4294967296) }
theorem cycle_none (l : Ly) (io : Io) : decide (cycleP l (io.none l) = 0) = decide ((checkB l).1 = 0) := by
  unfold cycleP
  by_cases hc : (checkB l).1 = 0
  · rw [if_neg (by simpa using hc)]
    have hm := check_zero l hc
    obtain ⟨⟨_, hp, _, hr⟩, _⟩ := may_facts l hm
    have hu : unknownP l (io.none l) = false := by
      unfold unknownP Io.none firstN
      have : 2 ^ l.points.length ≤ 4294967296 := Nat.pow_le_pow_right (n := 2) (by decide) hp
      have h0 := Nat.two_pow_pos l.points.length
      have e : (2 ^ min (min l.points.length 32) 64 - 1) % 4294967296 = 2 ^ l.points.length - 1 := by
        rw [Nat.min_eq_left hp, Nat.min_eq_left (by omega), Nat.mod_eq_of_lt (by omega)]
      simp only [e, Nat.zero_div, ne_eq, not_true_eq_false, decide_false, Bool.and_false, Bool.false_or]
      have : (io.pts &&& (2 ^ l.points.length - 1)) / 2 ^ l.points.length = 0 := Nat.div_eq_of_lt (Nat.lt_of_le_of_lt Nat.and_le_right (by omega))
      simp
    rw [hu]
    have hw : wrongP l (io.none l) = 0 := by
      unfold wrongP clashP occP undetP turnP numsOf shownOf Io.none
      simp [pick_zero]
    simp [hw, hc]
  · rw [if_pos hc]; simp [hc]
end Go.Proofs.Ytmoccpbiogdbgaa
