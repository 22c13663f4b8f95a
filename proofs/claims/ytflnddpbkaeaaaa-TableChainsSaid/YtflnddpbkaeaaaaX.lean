/- The texts that TableChains puts in, and what its loop holds. -/
import Derived.Test.YtflnddpbkaeaaaaW
namespace Go.Proofs.Ytflnddpbkaeaaaa
open Go.RowKit Go.Own

def tx (i : Nat) : List Int := [((i % 256 : Nat) : Int), ((i / 256 : Nat) : Int)]
def txs (n : Nat) : List (List Int) := (List.range n).map tx
theorem txs_len (n : Nat) : (txs n).length = n := by simp [txs]
theorem txs_get (n i : Nat) (h : i < n) : (txs n).getD i [] = tx i := by simp [txs, List.getD, h]
theorem tx_inj {i j : Nat} (h : tx i = tx j) : i = j := by
  unfold tx at h
  injection h with h1 h2
  injection h2 with h2 _
  omega
theorem tx_new (n : Nat) : tx n ∉ txs n := by
  intro h
  obtain ⟨j, hj, e⟩ := List.mem_map.1 h
  have := tx_inj e
  have := List.mem_range.1 hj
  omega
theorem txs_succ (n : Nat) : txs (n + 1) = txs n ++ [tx n] := by simp [txs, List.range_succ]
theorem txs_flat : ∀ n, (txs n).flatten.length = 2 * n
  | 0 => rfl
  | n + 1 => by rw [txs_succ, List.flatten_append, List.length_append, txs_flat n]; simp [tx]; omega
theorem tx_bytes (i : Nat) (h : i < 65536) : IsBytes (tx i) := by
  intro z hz
  unfold tx at hz
  simp only [List.mem_cons, List.not_mem_nil, or_false] at hz
  omega
theorem tx_len (i : Nat) : (tx i).length = 2 := rfl
theorem txs_mem {n : Nat} {t : List Int} (h : t ∈ txs n) : t.length = 2 := by
  obtain ⟨j, _, rfl⟩ := List.mem_map.1 h; rfl
theorem addT_tx {n m : Nat} (h : n < m) : addT (txs n) (m : Int) (tx n) = txs (n + 1) := by
  unfold addT
  rw [if_neg, txs_succ]
  rintro (h1 | h1)
  · exact tx_new n h1
  · rw [txs_len] at h1; omega
theorem addN_tx {n m : Nat} (h : n < m) : addN (txs n) (m : Int) (tx n) = (n : Int) := by
  unfold addN
  rw [if_neg (tx_new n), if_neg (by rw [txs_len]; omega), txs_len]
theorem addP_tx {n m : Nat} (h : n < m) : addP (txs n) (m : Int) (tx n) = true := by
  unfold addP
  rw [if_neg (tx_new n), if_neg (by rw [txs_len]; omega)]
theorem addE_tx {n m : Nat} (h : n < m) : addE (txs n) (m : Int) (tx n) = 0 := by
  unfold addE
  rw [if_neg (tx_new n), if_neg (by rw [txs_len]; omega)]
theorem addT_full (m : Nat) : addT (txs m) (m : Int) (tx m) = txs m := by
  unfold addT
  rw [if_pos (.inr (by rw [txs_len]; omega))]
theorem addN_full (m : Nat) : addN (txs m) (m : Int) (tx m) = 0 := by
  unfold addN
  rw [if_neg (tx_new m), if_pos (by rw [txs_len]; omega)]
theorem addP_full (m : Nat) : addP (txs m) (m : Int) (tx m) = false := by
  unfold addP
  rw [if_neg (tx_new m), if_pos (by rw [txs_len]; omega)]
theorem addE_full (m : Nat) : addE (txs m) (m : Int) (tx m) = 14 := by
  unfold addE
  rw [if_neg (tx_new m), if_pos (by rw [txs_len]; omega)]

/-- A table, and a slice of texts that may be appended to, each in blocks of its own. -/
def Chn (w0 w : World) (g : Nat) (mo : Int) (T : List (List Int)) (v : Value) (L : List (List Int)) : Prop :=
  ∃ F us, IsTab w g mo T F ∧ (∀ b, F b → w0.heap.size ≤ b) ∧ Below w0.heap.size w0 w ∧ Sl w 23 v L.length us ∧ (∀ b, v.ownBlock = some b → w0.heap.size ≤ b ∧ ¬ F b) ∧
    ∀ j, (hj : j < us.length) → TextAt (fun b => ¬ F b ∧ v.ownBlock ≠ some b) w us[j] (L.getD j [])
/-- The same, and beside it a text. -/
def Chn2 (w0 w : World) (g : Nat) (mo : Int) (T : List (List Int)) (v : Value) (L : List (List Int)) (u : Value) (zs : List Int) : Prop :=
  ∃ F us, IsTab w g mo T F ∧ (∀ b, F b → w0.heap.size ≤ b) ∧ Below w0.heap.size w0 w ∧ Sl w 23 v L.length us ∧ (∀ b, v.ownBlock = some b → w0.heap.size ≤ b ∧ ¬ F b) ∧
    (∀ j, (hj : j < us.length) → TextAt (fun b => ¬ F b ∧ v.ownBlock ≠ some b) w us[j] (L.getD j [])) ∧ TextAt (fun b => ¬ F b ∧ v.ownBlock ≠ some b) w u zs

theorem Chn2.drop {w0 w : World} {g : Nat} {mo : Int} {T L : List (List Int)} {v u : Value} {zs : List Int} (h : Chn2 w0 w g mo T v L u zs) : Chn w0 w g mo T v L := by
  obtain ⟨F, us, h1, h2, h3, h4, h5, h6, _⟩ := h
  exact ⟨F, us, h1, h2, h3, h4, h5, h6⟩
theorem Chn.old {w0 w : World} {g : Nat} {mo : Int} {T L : List (List Int)} {v : Value} (h : Chn w0 w g mo T v L) : Below w0.heap.size w0 w := by
  obtain ⟨F, us, h1, h2, h3, _⟩ := h; exact h3
theorem Chn.tab {w0 w : World} {g : Nat} {mo : Int} {T L : List (List Int)} {v : Value} (h : Chn w0 w g mo T v L) : ∃ F, IsTab w g mo T F := by
  obtain ⟨F, us, h1, _⟩ := h; exact ⟨F, h1⟩
theorem Chn.new (w : World) (m : Int) : Chn w (w.alloc (.cells (new49 m) 49)) w.heap.size m [] (.slice none 0 0) [] :=
  ⟨_, [], isTab_new w m, fun b e => by rw [e]; exact Nat.le_refl _, (Below.refl _ w).alloc (Nat.le_refl _) _, World.ownsRow_nil _ _ _ _, fun b e => (by cases e), fun j hj => absurd hj (by simp)⟩
theorem Chn.below {w0 w w' : World} {g : Nat} {mo : Int} {T L : List (List Int)} {v : Value} (h : Chn w0 w g mo T v L) (hb : Below w.heap.size w w') : Chn w0 w' g mo T v L := by
  obtain ⟨F, us, h1, h2, h3, h4, h5, h6⟩ := h
  exact ⟨F, us, h1.below hb, h2, h3.trans (hb.mono h3.size), Sl.kept h4 (Kept.ofBelow hb) (fun b e hle => by have := Sl.lt h4 b e; omega), h5,
    fun j hj => ((h6 j hj).inside.kept (Kept.ofBelow hb) (fun b hs hle => by have := hs.2; omega)).mono (fun b hs => hs.1)⟩
theorem Chn.rows {w0 w : World} {g n c : Nat} {a : Option Addr} {mo : Int} {T L : List (List Int)} (h : Chn w0 w g mo T (.slice a n c) L) : Rows (fun _ => True) w a L.length L := by
  obtain ⟨F, us, h1, h2, h3, h4, h5, h6⟩ := h
  have hl : us.length = L.length := by have := h4.1; omega
  refine ⟨rfl, ?_⟩
  rcases Nat.eq_zero_or_pos L.length with h0 | h0
  · exact .inl h0
  · obtain ⟨a', c', e, hc⟩ := h4.shape
    cases e
    obtain ⟨gb, rfl, _, _⟩ := hc 0 h0
    refine .inr ⟨gb, 0, rfl, trivial, fun i hi => ⟨us[i]'(by omega), ?_, (h6 i (by omega)).mono (fun _ _ => trivial)⟩⟩
    obtain ⟨gb', e, _, hcell⟩ := hc i hi
    cases e
    rw [Nat.zero_add, hcell]
    exact List.getElem?_eq_getElem (by omega)
theorem Chn2.push {w0 w : World} {g n : Nat} {mo : Int} {T L : List (List Int)} {v u : Value} {zs : List Int} (h : Chn2 w0 w g mo T v L u zs) (hn : L.length = n) :
    ∃ us, Sl w 23 v n us ∧ ∀ gb c w', Sl w' 23 (.slice (some ⟨gb, 0, none⟩) (n + 1) c) (n + 1) (us ++ [u]) → Kept (fun b => v.ownBlock = some b) w w' → (v.ownBlock = some gb ∨ w.heap.size ≤ gb) →
      Chn w0 w' g mo T (.slice (some ⟨gb, 0, none⟩) (n + 1) c) (L ++ [zs]) := by
  subst hn
  obtain ⟨F, us, h1, h2, h3, h4, h5, h6, h7⟩ := h
  refine ⟨us, h4, fun gb c w' hs hk hm => ?_⟩
  have hl : us.length = L.length := by have := h4.1; omega
  have hbelow : Below w0.heap.size w0 w' := h3.trans (hk.below h3.size (fun k hk e => by have := (h5 k e).1; omega))
  have hown : ∀ b, b < w.heap.size → v.ownBlock ≠ some b → (Value.slice (some ⟨gb, 0, none⟩) (L.length + 1) c).ownBlock ≠ some b := fun b hb hv e => by
    have e' : some gb = some b := e
    cases e'
    rcases hm with hm | hm
    · exact hv hm
    · omega
  refine ⟨F, us ++ [u], h1.kept hk (fun b hF e => (h5 b e).2 hF), h2, hbelow, by rw [List.length_append]; exact hs, fun b e => ?_, fun j hj => ?_⟩
  · have e' : some gb = some b := e
    cases e'
    rcases hm with hm | hm
    · exact h5 gb hm
    · exact ⟨Nat.le_trans h3.size hm, fun hF => by have := h1.lt gb hF; omega⟩
  · rw [List.length_append, List.length_singleton] at hj
    have key : ∀ {u' : Value} {t : List Int}, TextAt (fun b => ¬ F b ∧ v.ownBlock ≠ some b) w u' t → TextAt (fun b => ¬ F b ∧ (Value.slice (some ⟨gb, 0, none⟩) (L.length + 1) c).ownBlock ≠ some b) w' u' t := fun ht =>
      (ht.inside.kept hk (fun b hs e => hs.1.2 e)).mono (fun b hs => ⟨hs.1.1, hown b hs.2 hs.1.2⟩)
    by_cases hlt : j < us.length
    · rw [List.getElem_append_left hlt, getD_append_lt _ _ _ _ (by omega)]
      exact key (h6 j hlt)
    · obtain rfl : j = us.length := by omega
      rw [List.getElem_append_right (Nat.le_refl _), show (L ++ [zs]).getD us.length [] = zs by rw [hl]; exact getD_append_len _ _ _]
      simp only [Nat.sub_self, List.getElem_cons_zero]
      exact key h7

theorem row_lit (w : World) (p q : Int) : RowAt .u8 (w.alloc (.cells #[.int .u8 p, .int .u8 q] 5)) (some ⟨w.heap.size, 0, none⟩) 2 [p, q] := by
  refine ⟨rfl, .inr ⟨w.heap.size, 0, rfl, fun i hi => ?_⟩⟩
  rw [World.cell?_alloc_at _ _ _ _ rfl, Nat.zero_add]
  match i, hi with
  | 0, _ => rfl
  | 1, _ => rfl

/-- Add at a text that has just been written out. -/
theorem chn_add {w0 w : World} {g : Nat} {mo : Int} {T L : List (List Int)} {v : Value} (h : Chn w0 w g mo T v L) (p q : Int) (hbs : IsBytes [p, q]) (hsz : T.flatten.length + 2 ≤ 1099511627776) (hT : T.length ≤ 65536) :
    Calls Try.prog 11 #[.pointer (some ⟨g, 0, none⟩), .slice (some ⟨w.heap.size, 0, none⟩) 2 2] (w.alloc (.cells #[.int .u8 p, .int .u8 q] 5)) fun e w' =>
      e = .returned (.tuple #[.int .i64 (addN T mo [p, q]), .bool (addP T mo [p, q]), .int .i64 (addE T mo [p, q])]) ∧ Hid (Chn2 w0 w' g mo (addT T mo [p, q]) v L (.slice (some ⟨w.heap.size, 0, none⟩) 2 2) [p, q]) := by
  have hb : Below w.heap.size w (w.alloc (.cells #[.int .u8 p, .int .u8 q] 5)) := (Below.refl _ w).alloc (Nat.le_refl _) _
  have hsz1 : (w.alloc (.cells #[.int .u8 p, .int .u8 q] 5)).heap.size = w.heap.size + 1 := by simp
  have hrow := row_lit w p q
  obtain ⟨F, us, h1, h2, h3, h4, h5, h6⟩ := h
  have h1' := h1.below hb
  have h3' := h3.trans (hb.mono h3.size)
  refine (add_any g mo T F _ h1' _ 2 2 [p, q] hrow (fun h => nomatch h) hbs hsz hT).mono ?_
  rintro e w' ⟨rfl, F', k4, k5, k6⟩
  have hlt : ∀ b, v.ownBlock = some b → b < w.heap.size := fun b e => Sl.lt h4 b e
  have hF1 : ∀ b, b < w.heap.size → ¬ F b → ¬ F' b := fun b hb' hF hF' => (k6 b hF').elim hF (fun hle => by omega)
  have hFn : ¬ F' w.heap.size := fun hF' => (k6 _ hF').elim (fun hF => by have := h1.lt _ hF; omega) (fun hle => by omega)
  have hFo : ¬ F w.heap.size := fun hF => by have := h1.lt _ hF; omega
  refine ⟨rfl, F', us, k4, fun b hb' => (k6 b hb').elim (h2 b) (fun hle => Nat.le_trans h3'.size hle), h3'.trans (k5.below h3'.size (fun k hk hF => by have := h2 k hF; omega)),
    Sl.kept (Sl.kept h4 (Kept.ofBelow hb) (fun b e hle => by have := hlt b e; omega)) k5 (fun b e => (h5 b e).2), fun b e => ⟨(h5 b e).1, hF1 b (hlt b e) (h5 b e).2⟩, fun j hj => ?_, ?_⟩
  · exact (((h6 j hj).inside.kept (Kept.ofBelow hb) (fun b hs hle => by have := hs.2; omega)).kept k5 (fun b hs hF => hs.1.1 hF)).mono (fun b hs => ⟨hF1 b hs.2 hs.1.1, hs.1.2⟩)
  · refine ⟨_, 2, rfl, RowAt.kept hrow k5 (fun b off e => ?_), (fun h => nomatch h), fun b off e => ?_⟩
    · cases e; exact .inr hFo
    · cases e; exact .inr ⟨hFn, fun e => by have := hlt _ e; omega⟩
end Go.Proofs.Ytflnddpbkaeaaaa
