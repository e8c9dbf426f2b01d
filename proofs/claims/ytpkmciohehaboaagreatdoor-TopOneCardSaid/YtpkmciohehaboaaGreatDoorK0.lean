/- Short names for laws of the library. -/
import Derived.Lib.Hide
import Derived.Below
set_option linter.unusedVariables false
namespace Go.Proofs.YtpkmciohehaboaaGreatDoor
theorem af:∀ {p : Prop}, p → RowKit.Hid p:=@Go.Lib.hid
theorem ah:∀ (n : Nat), n ≤ n:=@Nat.le_refl
theorem aj.{u}:∀ {c : Prop} {h : Decidable c}, ¬c → ∀ {α : Sort u} {t e : α}, (if c then t else e) = e:=@if_neg
theorem ax.{u}:∀ {c : Prop} {h : Decidable c}, c → ∀ {α : Sort u} {t e : α}, (if c then t else e) = t:=@if_pos
theorem ay.{u_1}:∀ {α : Type u_1} {x : α} {xs : List α} {a : α}, List.set (x :: xs) 0 a = a :: xs:=@List.set_cons_zero
theorem az.{u_1}:∀ {α : Type u_1} (l : List α) (i : Nat) (a : α), Array.setIfInBounds (List.toArray l) i a = List.toArray (List.set l i a):=@List.setIfInBounds_toArray
theorem aA.{u_1}:∀ {α : Type u_1} {x : α} {xs : List α} {i : Nat} {a : α}, List.set (x :: xs) (i + 1) a = x :: List.set xs i a:=@List.set_cons_succ
theorem aL:∀ (n : Nat), 0 ≤ n:=@Nat.zero_le
theorem aN.{u}:∀ {α : Type u} {as bs : List α}, List.length (as ++ bs) = List.length as + List.length bs:=@List.length_append
theorem a_.{u_1}:∀ {α : Type u_1} {l : List α} {i : Nat} (h : i < List.length l), l[i]? = some l[i]:=@List.getElem?_eq_getElem
theorem bP:∀ {p : Prop} [inst : Decidable p], p → decide p = true:=@decide_eq_true
theorem bU:∀ {p : Prop} [inst : Decidable p], ¬p → decide p = false:=@decide_eq_false
theorem cB.{u_1}:∀ {α : Type u_1} {i : Nat} {l : List α}, List.length l ≤ i → List.take i l = l:=@List.take_of_length_le
theorem fe.{u}:∀ {α : Type u} {a : α} {as : List α}, List.length (a :: as) = List.length as + 1:=@List.length_cons
theorem fq.{u_1}:∀ {α : Type u_1} {l : List α} {i : Nat} {a : α}, l[i]? = some a → a ∈ l:=@List.mem_of_getElem?
theorem fH.{u_1}:∀ {α : Type u_1} (y : α) {a : α} {l : List α}, a ∈ l → a ∈ y :: l:=@List.mem_cons_of_mem
theorem fI:∀ {n m k : Nat}, n < m → m ≤ k → n < k:=@Nat.lt_of_lt_of_le
theorem fO.{u_1}:∀ {α : Type u_1} [inst : BEq α] [LawfulBEq α] {a b : α}, (a == b) = false ↔ a ≠ b:=@beq_eq_false_iff_ne
theorem gM:∀ {n m k : Nat}, n ≤ m → m ≤ k → n ≤ k:=@Nat.le_trans
theorem iw.{u_1}:∀ {α : Type u_1} {l : List α} {i : Nat}, List.take (i + 1) l = List.take i l ++ Option.toList l[i]?:=@List.take_add_one
theorem iK.{u_1}:∀ {α : Type u_1} {a : α} {l : List α}, a ∈ a :: l:=@List.mem_cons_self
theorem iL.{u_1}:∀ {α : Type u_1} (a : α), Option.toList (some a) = [a]:=@Option.toList_some
theorem jf.{u}:∀ {α : Type u} (as bs cs : List α), as ++ bs ++ cs = as ++ (bs ++ cs):=@List.append_assoc
theorem jQ.{u}:∀ {α : Type u} (as : List α), [] ++ as = as:=@List.nil_append
theorem j6.{u_1,u_2}:∀ {α : Type u_1} {β : Type u_2} {f : α → β} {l₁ l₂ : List α}, List.map f (l₁ ++ l₂) = List.map f l₁ ++ List.map f l₂:=@List.map_append
theorem kF.{u_1}:∀ {α : Type u_1} {l₁ l₂ : List α} {i : Nat}, List.length l₁ ≤ i → (l₁ ++ l₂)[i]? = l₂[i - List.length l₁]?:=@List.getElem?_append_right
theorem kR.{u}:∀ {α : Type u} (as : List α), as ++ [] = as:=@List.append_nil
theorem kS.{u_1}:∀ {α : Type u_1} {i : Nat} {l : List α}, List.length (List.take i l) = min i (List.length l):=@List.length_take
theorem lV.{u,v}:∀ {α : Type u} {β : Type v} {f : α → β} {a : α} {l : List α}, List.map f (a :: l) = f a :: List.map f l:=@List.map_cons
theorem mg:∀ {n m : Nat}, n < m → n ≤ m:=@Nat.le_of_lt
theorem mh:∀ (n : Nat), 0 + n = n:=@Nat.zero_add
theorem nD.{u,v}:∀ {α : Type u} {β : Type v} {a : α} {l : List α} {f : β → α → β} {b : β}, List.foldl f b (a :: l) = List.foldl f (f b a) l:=@List.foldl_cons
theorem nV.{u_1}:∀ {α : Type u_1} {xs : Array α}, List.length (Array.toList xs) = Array.size xs:=@Array.length_toList
theorem og.{u_1,u_2}:∀ {α : Type u_1} {β : Type u_2} {f : β → α → β} {b : β} {l l' : List α}, List.foldl f b (l ++ l') = List.foldl f (List.foldl f b l) l':=@List.foldl_append
theorem oM.{u}:∀ {α : Type u} {a : α} {as bs : List α}, a :: as ++ bs = a :: (as ++ bs):=@List.cons_append
theorem pI:∀ (a b : Bool), ((a && b) = true) = (a = true ∧ b = true):=@Bool.and_eq_true
theorem qG.{u_1}:∀ {α : Type u_1} {b : α} {l : List α} {a : α}, a ∈ b :: l ↔ a = b ∨ a ∈ l:=@List.mem_cons
theorem qH:∀ (n m : Nat), n ^ Nat.succ m = n ^ m * n:=@Nat.pow_succ
theorem qI.{u}:∀ {α : Type u} {val val_1 : α}, some val = some val_1 → val = val_1:=@Option.some.inj
theorem rP.{u_1}:∀ {α : Type u_1} {s t : List α} (i : Nat) (x : α), List.length s ≤ i → List.set (s ++ t) i x = s ++ List.set t (i - List.length s) x:=@List.set_append_right
theorem rQ:∀ (n : Nat), n < Nat.succ n:=@Nat.lt_succ_self
theorem tC.{u_1}:∀ {α : Type u_1} {p : α → Bool} {l : List α}, List.all l p = true ↔ ∀ (x : α), x ∈ l → p x = true:=@List.all_eq_true
theorem tQ:∀ {p : Prop} [inst : Decidable p], (decide p = true) = p:=@decide_eq_true_eq
theorem vT.{u_1}:∀ {α : Type u_1} {l₁ l₂ : List α} {i : Nat}, i < List.length l₁ → (l₁ ++ l₂)[i]? = l₁[i]?:=@List.getElem?_append_left
theorem vU.{u,v}:∀ {α : Type u} {β : Type v} {f : α → β}, List.map f [] = []:=@List.map_nil
theorem vV.{u_1}:∀ {α : Type u_1} (i : Nat) (l : List α), List.take i l ++ List.drop i l = l:=@List.take_append_drop
theorem vW:∀ (n m : Nat), n < m ∨ n ≥ m:=@Nat.lt_or_ge
theorem xk.{u_1}:∀ {α : Type u_1} {i : Nat} {l : List α}, List.length (List.drop i l) = List.length l - i:=@List.length_drop
theorem xm.{u_1}:∀ {α : Type u_1} {a : α}, ¬a ∈ []:=@List.not_mem_nil
theorem xq:∀ (n m k : Nat), n + m + k = n + (m + k):=@Nat.add_assoc
theorem yl:∀ {a b : Bool}, a = b ↔ (a = true ↔ b = true):=@Bool.eq_iff_iff
theorem yB.{u_1}:∀ {α : Type u_1} {l : List α} (p : α → Bool), List.Sublist (List.dropWhile p l) l:=@List.dropWhile_sublist
theorem zD:(false = true) = False:=@Bool.false_eq_true
theorem zF:∀ (b : Bool), (true && b) = b:=@Bool.true_and
theorem zR.{u_1}:∀ {α : Type u_1} {l : List α}, List.length l = 0 → l = []:=@List.eq_nil_of_length_eq_zero
theorem zT:∀ (n : Nat), n = 0 ∨ n > 0:=@Nat.eq_zero_or_pos
theorem zU:∀ (n : Nat), n ≤ Nat.succ n:=@Nat.le_succ
theorem zV:∀ (n : Nat), n - n = 0:=@Nat.sub_self
theorem Cb:∀ (n : Nat), Int.toNat ↑n = n:=@Int.toNat_natCast
theorem Cc.{u_1}:∀ {α : Type u_1} {l : List α} {i : Nat} {a : α}, List.getD l i a = Option.getD l[i]? a:=@List.getD_eq_getElem?_getD
theorem Ce:∀ (n : Nat), ¬n < n:=@Nat.lt_irrefl
theorem Cf:∀ {n m : Nat} (k : Nat), n ≤ m → n * k ≤ m * k:=@Nat.mul_le_mul_right
theorem Cg.{u}:∀ {α : Type u} (val val_1 : α), (some val = some val_1) = (val = val_1):=@Option.some.injEq
theorem De:∀ (b : Bool), (b && false) = false:=@Bool.and_false
theorem ET:∀ (b : Bool), ((!b) = true) = (b = false):=@Bool.not_eq_true'
theorem EU:∀ {x y : Bool}, (x || y) = false ↔ x = false ∧ y = false:=@Bool.or_eq_false_iff
theorem Kt:(¬True) = False:=@not_true_eq_false
end Go.Proofs.YtpkmciohehaboaaGreatDoor
