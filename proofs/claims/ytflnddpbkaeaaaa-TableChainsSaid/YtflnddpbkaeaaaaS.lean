/- The plain side of TableOnce, and what its loop holds. -/
import Derived.Test.YtflnddpbkaeaaaaR
namespace Go.Proofs.Ytflnddpbkaeaaaa
open Go.RowKit Go.Own

theorem addT_room {T : List (List Int)} {mo : Int} {bs : List Int} (h : (T.length : Int) < mo) : bs ∈ addT T mo bs := by
  unfold addT
  by_cases hm : bs ∈ T
  · rw [if_pos (.inl hm)]; exact hm
  · rw [if_neg (by rintro (h1 | h1); exact hm h1; omega)]; simp
theorem addT_sub {T : List (List Int)} {mo : Int} {bs t : List Int} (h : t ∈ T) : t ∈ addT T mo bs := by
  unfold addT; split
  · exact h
  · exact List.mem_append_left _ h
theorem addT_get {T : List (List Int)} {mo : Int} {bs : List Int} {i : Nat} (h : i < T.length) : (addT T mo bs).getD i [] = T.getD i [] := by
  unfold addT; split
  · rfl
  · exact getD_append_lt _ _ _ _ h
theorem idx_add {T : List (List Int)} {mo : Int} {bs t : List Int} (hn : (addT T mo bs).Nodup) (h : t ∈ T) : idx (addT T mo bs) t = idx T t := by
  obtain ⟨i, hi, e, hx⟩ := idx_pos h
  rw [hx]
  refine idx_of_get hn ?_ (by rw [addT_get hi]; exact e)
  have : T.length ≤ (addT T mo bs).length := by unfold addT; split <;> simp
  omega
theorem addN_room {T : List (List Int)} {mo : Int} {bs : List Int} (hn : (addT T mo bs).Nodup) (h : (T.length : Int) < mo) : addN T mo bs = idx (addT T mo bs) bs := by
  by_cases hm : bs ∈ T
  · rw [idx_add hn hm]; unfold addN; rw [if_pos hm]
  · unfold addN
    rw [if_neg hm, if_neg (by omega)]
    have e : addT T mo bs = T ++ [bs] := by unfold addT; rw [if_neg (by rintro (h1 | h1); exact hm h1; omega)]
    rw [e] at hn ⊢
    exact (idx_of_get hn (by simp) (getD_append_len _ _ _)).symm
theorem addE_room {T : List (List Int)} {mo : Int} {bs : List Int} (h : (T.length : Int) < mo) : addE T mo bs = 0 := by
  unfold addE; split
  · rfl
  · rw [if_neg (by omega)]
theorem playT_all {mo : Int} {X : List (List Int)} : ∀ k : Nat, (k : Int) ≤ mo → k ≤ X.length → ∀ j : Nat, j < k → X.getD j [] ∈ playT mo X k
  | 0, _, _, j, hj => by omega
  | k + 1, hm, hk, j, hj => by
    have hlen := playT_len mo X k
    rcases Nat.lt_succ_iff_lt_or_eq.1 hj with h | rfl
    · exact addT_sub (playT_all k (by omega) (by omega) j h)
    · exact addT_room (by omega)
theorem idx_inj {T : List (List Int)} {a b : List Int} (ha : a ∈ T) (hb : b ∈ T) : (idx T a == idx T b) = decide (a = b) := by
  obtain ⟨i, hi, e1, x1⟩ := idx_pos ha
  obtain ⟨j, hj, e2, x2⟩ := idx_pos hb
  rw [x1, x2]
  by_cases h : a = b
  · subst h
    rw [x1] at x2
    rw [x2, decide_eq_true rfl]; simp
  · rw [decide_eq_false h]
    refine beq_eq_false_iff_ne.2 fun e => h ?_
    have : i = j := by omega
    subst this
    rw [← e1, ← e2]

/-- The numbers of the first k texts. -/
def nums (X T : List (List Int)) (k : Nat) : List Int := (X.take k).map (idx T)
theorem nums_len (X T : List (List Int)) (k : Nat) (h : k ≤ X.length) : (nums X T k).length = k := by simp [nums]; omega
theorem nums_at (X T : List (List Int)) (k j : Nat) (h : k ≤ X.length) (hj : j < k) : (nums X T k).getD j 0 = idx T (X.getD j []) := by
  have hjX : j < X.length := by omega
  simp [nums, List.getD, hj, hjX]
theorem nums_step {X T : List (List Int)} {mo : Int} {k : Nat} (hk : k < X.length) (hn : (addT T mo (X.getD k [])).Nodup) (hall : ∀ j, j < k → X.getD j [] ∈ T) (n : Int) (hN : n = idx (addT T mo (X.getD k [])) (X.getD k [])) :
    nums X (addT T mo (X.getD k [])) (k + 1) = nums X T k ++ [n] := by
  unfold nums
  rw [take_snoc X k hk, List.map_append, List.map_singleton, ← hN]
  congr 1
  refine List.map_congr_left fun t ht => ?_
  obtain ⟨j, hj, rfl⟩ := List.getElem_of_mem ht
  rw [List.length_take] at hj
  refine idx_add hn ?_
  have := hall j (by omega)
  rw [show X.getD j [] = X[j]'(by omega) by simp [List.getD, show j < X.length by omega]] at this
  rw [List.getElem_take]; exact this

/-- A table made since w0, and beside it a row of numbers. -/
def Once (w0 w : World) (g : Nat) (mo : Int) (T : List (List Int)) (v : Value) (ns : List Int) : Prop :=
  ∃ F, IsTab w g mo T F ∧ (∀ b, F b → w0.heap.size ≤ b) ∧ Below w0.heap.size w0 w ∧ Sl w 3 v ns.length (ns.map (Value.int .i64)) ∧ ∀ b, v.ownBlock = some b → w0.heap.size ≤ b ∧ ¬ F b

theorem Once.tab {w0 w : World} {g : Nat} {mo : Int} {T : List (List Int)} {v : Value} {ns : List Int} (h : Once w0 w g mo T v ns) : ∃ F, IsTab w g mo T F := h.imp fun _ h => h.1
theorem Once.old {w0 w : World} {g : Nat} {mo : Int} {T : List (List Int)} {v : Value} {ns : List Int} (h : Once w0 w g mo T v ns) : Below w0.heap.size w0 w := by obtain ⟨F, _, _, h, _⟩ := h; exact h
theorem Once.sl {w0 w : World} {g : Nat} {mo : Int} {T : List (List Int)} {v : Value} {ns : List Int} (h : Once w0 w g mo T v ns) : Sl w 3 v ns.length (ns.map (Value.int .i64)) := by obtain ⟨F, _, _, _, h, _⟩ := h; exact h
theorem Once.nodup {w0 w : World} {g : Nat} {mo : Int} {T : List (List Int)} {v : Value} {ns : List Int} (h : Once w0 w g mo T v ns) : T.Nodup := by obtain ⟨F, ⟨C, X, h⟩, _⟩ := h; exact h.nodup
theorem Once.below {w0 w w' : World} {g : Nat} {mo : Int} {T : List (List Int)} {v : Value} {ns : List Int} (h : Once w0 w g mo T v ns) (hb : Below w.heap.size w w') : Once w0 w' g mo T v ns := by
  obtain ⟨F, h1, h2, h3, h4, h5⟩ := h
  exact ⟨F, h1.below hb, h2, h3.trans (hb.mono h3.size), Sl.kept h4 (Kept.ofBelow hb) (fun b e hle => by have := Sl.lt h4 b e; omega), h5⟩
theorem Once.new (w : World) (m : Int) : Once w (w.alloc (.cells (new49 m) 49)) w.heap.size m [] (.slice none 0 0) [] :=
  ⟨_, isTab_new w m, fun b e => by rw [e]; exact Nat.le_refl _, (Below.refl _ w).alloc (Nat.le_refl _) _, World.ownsRow_nil _ _ _ _, fun b e => by cases e⟩
theorem add_once {w0 w : World} {g : Nat} {mo : Int} {T : List (List Int)} {v : Value} {ns : List Int} (h : Once w0 w g mo T v ns) (a : Option Addr) (n c : Nat) (bs : List Int) (hb : RowAt .u8 w a n bs) (hnil : a = none → n = 0 ∧ c = 0) (hbs : IsBytes bs)
    (hsz : T.flatten.length + n ≤ 1099511627776) (hT : T.length ≤ 65536) :
    Calls Try.prog 11 #[.pointer (some ⟨g, 0, none⟩), .slice a n c] w fun e w' => e = .returned (.tuple #[.int .i64 (addN T mo bs), .bool (addP T mo bs), .int .i64 (addE T mo bs)]) ∧ Hid (Once w0 w' g mo (addT T mo bs) v ns) := by
  obtain ⟨F, h1, h2, h3, h4, h5⟩ := h
  refine (add_any g mo T F w h1 a n c bs hb hnil hbs hsz hT).mono ?_
  rintro e w' ⟨rfl, F', k4, k5, k6⟩
  refine ⟨rfl, F', k4, fun b hb => (k6 b hb).elim (h2 b) (fun hle => Nat.le_trans h3.size hle), h3.trans (k5.below h3.size (fun k hk hF => ?_)), Sl.kept h4 k5 (fun b e => (h5 b e).2), fun b e => ⟨(h5 b e).1, fun hF => (k6 b hF).elim (h5 b e).2 (fun hle => ?_)⟩⟩
  · have := h2 k hF; omega
  · have := Sl.lt h4 b e; omega
theorem Once.push {w0 w w' : World} {g : Nat} {mo : Int} {T : List (List Int)} {v : Value} {ns : List Int} {n : Int} {gb c N : Nat} (h : Once w0 w g mo T v ns) (hN : ns.length = N)
    (hs : Sl w' 3 (.slice (some ⟨gb, 0, none⟩) (N + 1) c) (N + 1) (ns.map (Value.int .i64) ++ [.int .i64 n])) (hk : Kept (fun b => v.ownBlock = some b) w w') (hm : v.ownBlock = some gb ∨ w.heap.size ≤ gb) :
    Once w0 w' g mo T (.slice (some ⟨gb, 0, none⟩) (N + 1) c) (ns ++ [n]) := by
  subst hN
  obtain ⟨F, h1, h2, h3, h4, h5⟩ := h
  refine ⟨F, h1.kept hk (fun b hF e => (h5 b e).2 hF), h2, h3.trans (hk.below h3.size (fun k hk e => by have := (h5 k e).1; omega)), by simpa using hs, fun b e => ?_⟩
  have e' : some gb = some b := e
  cases e'
  rcases hm with hm | hm
  · exact h5 gb hm
  · exact ⟨Nat.le_trans h3.size hm, fun hF => by have := h1.lt gb hF; omega⟩
theorem addT_nodup {T : List (List Int)} {mo : Int} {bs : List Int} (h : T.Nodup) : (addT T mo bs).Nodup := by
  unfold addT; split
  · exact h
  · rename_i hn
    rw [List.nodup_append]
    exact ⟨h, by simp, fun a ha b hb => by rintro rfl; simp at hb; exact hn (.inl (hb ▸ ha))⟩
theorem len_once {w0 w : World} {g : Nat} {mo : Int} {T : List (List Int)} {v : Value} {ns : List Int} (h : Once w0 w g mo T v ns) : Calls Try.prog 13 #[.pointer (some ⟨g, 0, none⟩)] w fun e w' => e = .returned (.int .i64 (T.length : Int)) ∧ w = w' := by
  obtain ⟨F, hF⟩ := h.tab; exact len_any g mo T F w hF
theorem key_once {w0 w : World} {g : Nat} {mo : Int} {T : List (List Int)} {v : Value} {ns : List Int} (h : Once w0 w g mo T v ns) (k : Nat) (hk : k < T.length) (zs : List Int) (hz : T.getD k [] = zs) (hl : zs.length ≤ 140737488351232) :
    Calls Try.prog 16 #[.pointer (some ⟨g, 0, none⟩), .int .i64 (k : Int)] w fun e w' => ∃ a c, e = .returned (.slice a zs.length c) ∧ Hid (MadeInts .u8 5 w w' (.slice a zs.length c) zs) := by
  subst hz
  obtain ⟨F, hF⟩ := h.tab
  exact (key_any g mo T F w hF k hk hl).mono (by rintro e w' ⟨a, c, rfl, hm⟩; exact ⟨a, c, rfl, hm⟩)

theorem held_first {w : World} {b o : Nat} {v : Value} (hc : w.cell? ⟨b, o, none⟩ = some v) : w.drew.cell? ⟨b, o, none⟩ = some v ∧ Hid (Below w.heap.size w w.drew) := ⟨hc, (Below.refl _ _).drew⟩
theorem held_then {w wc w' : World} {b o : Nat} {v u : Value} {l : List Int} (hc : w.cell? ⟨b, o, none⟩ = some v) (hb : Hid (Below w.heap.size w wc)) (hm : Hid (MadeInts .u8 5 wc w' u l)) : w'.cell? ⟨b, o, none⟩ = some v ∧ Hid (Below w.heap.size w w') := by
  have hb' := hb.out.trans (hm.out.2.1.mono hb.out.size)
  exact ⟨(hb'.cell (World.block_lt_of_cell? w _ hc)).trans hc, hb'⟩
theorem heldS_first {w : World} {b o : Nat} {a : Option Addr} {n c : Nat} {zs : List Int} (hc : w.cell? ⟨b, o, none⟩ = some (.slice a n c)) (hr : RowAt .u8 w a n zs) : w.drew.cell? ⟨b, o, none⟩ = some (.slice a n c) ∧ (convert 23 9 (.slice a n c)).run Try.prog w.drew = .ok (.string (strOfNums zs)) w.drew ∧ Hid (Below w.heap.size w w.drew) :=
  ⟨hc, run_str (hr.below (Below.refl _ _).drew), (Below.refl _ _).drew⟩
theorem heldS_then {w wc w' : World} {b o : Nat} {a : Option Addr} {n c : Nat} {zs : List Int} {u : Value} {l : List Int} (hc : w.cell? ⟨b, o, none⟩ = some (.slice a n c)) (hr : RowAt .u8 w a n zs) (hb : Hid (Below w.heap.size w wc)) (hm : Hid (MadeInts .u8 5 wc w' u l)) : w'.cell? ⟨b, o, none⟩ = some (.slice a n c) ∧ (convert 23 9 (.slice a n c)).run Try.prog w' = .ok (.string (strOfNums zs)) w' ∧ Hid (Below w.heap.size w w') := by
  have hb' := hb.out.trans (hm.out.2.1.mono hb.out.size)
  exact ⟨(hb'.cell (World.block_lt_of_cell? w _ hc)).trans hc, run_str (hr.below hb'), hb'⟩
theorem once_num {w0 w : World} {g : Nat} {mo : Int} {T : List (List Int)} {a : Option Addr} {k c : Nat} {ns : List Int} (h : Once w0 w g mo T (.slice a k c) ns) (hN : ns.length = k) (m : Nat) (hm : m < k) :
    ∃ gb, a = some ⟨gb, 0, none⟩ ∧ w.cell? ⟨gb, m, none⟩ = some (.int .i64 (ns.getD m 0)) := by
  obtain ⟨a', c', e, hc⟩ := h.sl.shape
  cases e
  obtain ⟨gb, rfl, _, hcell⟩ := hc m (by omega)
  refine ⟨gb, rfl, ?_⟩
  rw [hcell]
  have : m < ns.length := by omega
  simp [List.getD, this]
end Go.Proofs.Ytflnddpbkaeaaaa
