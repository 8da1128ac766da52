import Derived.Test.YtngacbdogjmpaaaGreatX36S
set_option linter.unusedVariables false
set_option maxRecDepth 100000
namespace Go.Proofs
open Go.Abs
open Value IntKind
noncomputable section
namespace F155
variable (P:PT)
abbrev k0:Sk:=[(5,.v)]
def B1:Y k0:=fun a H=>
  P a H
abbrev k1:Sk:=[(1,.i .u64),(2,.x),(5,.v),(6,.i .u64),(12,J),(13,J)]
def B3 (P:PT) (c:Y k1):Y k1:=fun d e f g a b H=>
  c d e f g a (i64.wrap (b+1)) H
abbrev k2:Sk:=[(1,.i .u64),(2,.x),(5,.v),(6,.i .u64),(8,.v),(12,J),(13,J)]
def B4 (d:Y k1):Y k2:=fun e f g h c a b H=>
  pif (Value.oneCell' c) (newK H [c] 27 (fun i j=>apK T0 27 j g (slice (some ⟨i,0,none⟩) 1 (1+1)) (fun k l=>B3 P d e f k h a b l))) False
abbrev k3:Sk:=[(1,.i .u64),(2,.x),(5,.v),(6,.i .u64),(8,.v),(12,J),(13,J),(22,.v),(23,J),(24,J)]
def B6 (P:PT) (l:Y k1) (f:Y k3):Y k3:=fun g h i j k a b c d e H=>
  f g h i j k a b c d (i64.wrap (e+1)) H
abbrev k4:Sk:=[(1,.i .u64),(2,.x),(5,.v),(6,.i .u64),(8,.v),(9,J),(12,J),(13,J),(22,.v),(23,J),(24,J)]
def B7 (g:Y k1) (h:Y k3):Y k4:=fun i j k l m f a b c d e H=>
  ((0:Int)≤f)∧(B6 P g h i j k (u64.wrap (BitVec.ofInt 64 l|||BitVec.ofInt 64 (u64.wrap (1*2^(min (Int.toNat f) 64)))).toNat) m a b c d e H)
def B8 (g:Y k1) (h:Y k3):Y k4:=fun i j k l m f a b c d e H=>
  newK H [(I f)] 2 (fun n o=>apK T0 2 o m (slice (some ⟨n,0,none⟩) 1 (1+1)) (fun p q=>B7 P g h i j k l p f a b c d e q))
abbrev k5:Sk:=[(1,.i .u64),(2,.x),(5,.v),(6,.i .u64),(8,.v),(9,J),(10,J),(12,J),(13,J),(22,.v),(23,J),(24,J)]
def B9 (g:Y k1) (h:Y k3):Y k5:=fun i j k l m n f a b c d e H=>
  pif (decide ((f:Int)≥0)) (B8 P g h i j k l m n a b c d e H) (B6 P g h i j k l m a b c d e H)
def B10 (f:Y k1) (g:Y k3):Y k3:=fun h i j k l c d b e a H=>
  idxK b a 1 (fun m n=>li H m n (fun o=>B9 P f g h i j k l a o c d b e a H))
def B11 (f:Y k1) (l:Y k3):Y k3:=fun g h i j k a b e c d H=>
  pif (decide ((d:Int)<c)) (B10 P f l g h i j k a b e c d H) (B4 P f g h i j k a b H)
def L5 (C:Y k1):Y k3:=fun D F K L Q k l m n o H=>
  ∃ (I:Y k3) (μ:NTy k3 (AHeap→Nat)),I D F K L Q k l m n o H∧∀ p q r s t a b c d e G,I p q r s t a b c d e G→B11 P C (fun u v w x y f g h i j z=>I u v w x y f g h i j z∧μ u v w x y f g h i j z<μ p q r s t a b c d e G) p q r s t a b c d e G
abbrev k6:Sk:=[(1,.i .u64),(2,.x),(5,.v),(6,.i .u64),(7,J),(8,.v),(12,J),(13,J)]
def B12 (f:Y k1):Y k6:=fun d a g h i j b c H=>
  li H a 0 (fun k=>ld1 H a 1 (fun l=>A 75 [(agg ⟨[(I k),l]⟩),(I i),(int .u64 d)] H (fun e m=>lenK e (fun n=>L5 P f d a g h j b c e (n:Int) 0 m))))
abbrev k7:Sk:=[(1,.i .u64),(2,.x),(5,.v),(6,.i .u64),(7,J),(12,J),(13,J)]
def B13 (c:Y k1):Y k7:=fun d e f g h a b H=>
  B12 P c d e f g h (slice none 0 0) a b H
def B14 (d:Y k1):Y k7:=fun e f g c h a b H=>
  A 110 [(int .u64 c),(I h)] H (fun j i=>asB j (fun k=>pif k (B3 P d e f g c a b i) (B13 P d e f g c h a b i)))
def B15 (c:Y k1):Y k1:=fun d e f g b a H=>
  B14 P c d e f g a b a H
def B16 (d:Y k1):Y k1:=fun e f c g a b H=>
  pif (decide ((b:Int)<a)) (B15 P d e f c g a b H) (B1 P c H)
def L2:Y k1:=fun p q r s e f H=>
  ∃ (I:Y k1) (μ:NTy k1 (AHeap→Nat)),I p q r s e f H∧∀ g h i j a b G,I g h i j a b G→B16 P (fun k l m n c d o=>I k l m n c d o∧μ k l m n c d o<μ g h i j a b G) g h i j a b G
abbrev k8:Sk:=[(1,.i .u64),(2,.x),(5,.v),(6,.i .u64)]
def B17:Y k8:=fun b a c d H=>
  li H a 0 (fun e=>L2 P b a c d e 0 H)
abbrev k9:Sk:=[(1,.i .u64),(2,.x),(5,.v)]
def B18:Y k9:=fun a b c H=>
  B17 P a b c 0 H
abbrev k10:Sk:=[(1,.i .u64),(2,.x)]
def B19:Y k10:=fun a b H=>
  B18 P a b (slice none 0 0) H
abbrev k11:Sk:=[(0,.g [.i,.v]),(1,.i .u64)]
def B20:Y k11:=fun a b c H=>
  newK H [(I a),b] 26 (fun d e=>B19 P c d e)
theorem main:Z Tryz.f155 46 k11 (B20 P) P:=
  s (B19 P) (s (B18 P) (s (B17 P) (zBW (s (L2 P) (zBC (l (B16 P) (fun N2=>(zBW (b (cnd 14 (En 46 k1 (B15 P N2)) (En 46 k0 (B1 P)))) (zBW (zBN rfl zBS (zBT (fun _ _ h=>h))) (zBW (zBC (s (B14 P N2) (zBW (zBW (b (cnd 18 (En 46 k1 (B3 P N2)) (En 46 k7 (B13 P N2)))) (zBN rfl (zBT (fun _ _ h=>h)) zBS)) (s (B12 P N2) (zBW (s (L5 P N2) (zBC (l (B11 P N2) (fun N5=>(zBW (b (cnd 25 (En 46 k3 (B10 P N2 N5)) (En 46 k2 (B4 P N2)))) (zBW (zBN rfl zBS (zBT (fun _ _ h=>h))) (zBW (zBC (s (B9 P N2 N5) (zBW (b (cnd 30 (En 46 k4 (B8 P N2 N5)) (En 46 k3 (B6 P N2 N5)))) (zBN rfl (s (B7 P N2 N5) (a (B6 P N2 N5))) zBS)))) (a N5)))))))) (a (B3 P N2))))))) (a N2)))))))) (e ()))))
theorem ac (a:Int) (b:Value) (c:Int) (H:AHeap) (h:B20 P a b c H):A 155 [(agg ⟨[(I a),b]⟩),(int .u64 c)] H P:=
  fn Tryz.func155 (main P) h
end F155
namespace F156
variable (P:PT)
abbrev k0:Sk:=[(0,.v)]
def B1:Y k0:=fun a H=>
  lenK a (fun b=>P (I (b:Int)) H)
def B2:Y k0:=fun a H=>
  B1 P a H
theorem main:Z Tryz.f156 5 k0 (B2 P) P:=
  s (B1 P) (e ())
theorem ac (a:Value) (H:AHeap) (h:B2 P a H):A 156 [a] H P:=
  fn Tryz.func156 (main P) h
end F156
namespace F157
variable (P:PT)
abbrev k0:Sk:=[(6,J)]
def B1:Y k0:=fun a H=>
  P (I a) H
abbrev k1:Sk:=[(0,J),(5,.v),(6,J),(7,J)]
def B3 (P:PT) (a:Y k1):Y k1:=fun b c d e H=>
  a b c d (i64.wrap (e+1)) H
def B4 (a:Y k1):Y k1:=fun b c d e H=>
  B3 P a b c (i64.wrap (d+1)) e H
def B5 (c:Y k1):Y k1:=fun d b e a H=>
  idxK b a 1 (fun f g=>li H f g (fun h=>pif ((h:Int)==a) (B4 P c d b e a H) (B3 P c d b e a H)))
def B6 (d:Y k1):Y k1:=fun a e b c H=>
  pif (decide ((c:Int)<a)) (B5 P d a e b c H) (B1 P b H)
def L2:Y k1:=fun j k l m H=>
  ∃ (I:Y k1) (μ:NTy k1 (AHeap→Nat)),I j k l m H∧∀ a b c d G,I a b c d G→B6 P (fun e f g h i=>I e f g h i∧μ e f g h i<μ a b c d G) a b c d G
abbrev k2:Sk:=[(0,J),(5,.v),(6,J)]
def B7:Y k2:=fun a b c H=>
  L2 P a b c 0 H
abbrev k3:Sk:=[(0,J),(1,.v)]
def B8:Y k3:=fun a b H=>
  A 112 [(I a),b] H (fun c d=>B7 P a c 0 d)
def B9:Y k3:=fun a b H=>
  B8 P a b H
theorem main:Z Tryz.f157 25 k3 (B9 P) P:=
  s (B8 P) (s (B7 P) (zBW (s (L2 P) (zBC (l (B6 P) (fun N2=>(zBW (zBW (b (cnd 13 (En 25 k1 (B5 P N2)) (En 25 k0 (B1 P)))) (zBN rfl zBS (zBT (fun _ _ h=>h)))) (zBW (zBC (zBW (b (cnd 21 (En 25 k1 (B4 P N2)) (En 25 k1 (B3 P N2)))) (zBN rfl (a (B3 P N2)) zBS))) (a N2))))))) (e ())))
theorem ac (a:Int) (b:Value) (H:AHeap) (h:B9 P a b H):A 157 [(I a),b] H P:=
  fn Tryz.func157 (main P) h
end F157
namespace F158
variable (P:PT)
abbrev k0:Sk:=[(0,J),(1,.v),(4,.x)]
def B1:Y k0:=fun d e a H=>
  A 192 [e] H (fun c f=>pif (Value.oneCell' c) (stK f a 0 [(I d),c] (fun b=>li b a 0 (fun g=>ld1 b a 1 (fun h=>P (agg ⟨[(I g),h]⟩) b)))) False)
abbrev k1:Sk:=[(0,J),(1,.v)]
def B2:Y k1:=fun a b H=>
  newK H [(I 0),(slice none 0 0)] 26 (fun c d=>B1 P a b c d)
theorem main:Z Tryz.f158 9 k1 (B2 P) P:=
  s (B1 P) (e ())
theorem ac (a:Int) (b:Value) (H:AHeap) (h:B2 P a b H):A 158 [(I a),b] H P:=
  fn Tryz.func158 (main P) h
end F158
namespace F159
variable (P:PT)
abbrev k0:Sk:=[(1,J),(2,.x)]
def B1:Y k0:=fun a b H=>
  li H b 0 (fun c=>pif ((c:Int)==a) (P (bool true) H) (li H b 1 (fun d=>P (bool ((d:Int)==a)) H)))
abbrev k1:Sk:=[(0,.g [.i,.i]),(1,J)]
def B2:Y k1:=fun a b c H=>
  newK H [(I a),(I b)] 66 (fun d e=>B1 P c d e)
theorem main:Z Tryz.f159 15 k1 (B2 P) P:=
  s (B1 P) (e ())
theorem ac (a b c:Int) (H:AHeap) (h:B2 P a b c H):A 159 [(agg ⟨[(I a),(I b)]⟩),(I c)] H P:=
  fn Tryz.func159 (main P) h
end F159
namespace F160
variable (P:PT)
abbrev k0:Sk:=[(0,.i .u64)]
def B1:Y k0:=fun a H=>
  P (I (i64.wrap (BitVec.ofInt 64 (i64.wrap a)&&&BitVec.ofInt 64 127).toNat)) H
def B2:Y k0:=fun a H=>
  ((0:Int)≤32)∧(B1 P (u64.wrap (a+(Int.fdiv a (2^(min (Int.toNat 32) 64))))) H)
def B3:Y k0:=fun a H=>
  ((0:Int)≤16)∧(B2 P (u64.wrap (a+(Int.fdiv a (2^(min (Int.toNat 16) 64))))) H)
def B4:Y k0:=fun a H=>
  ((0:Int)≤8)∧(B3 P (u64.wrap (a+(Int.fdiv a (2^(min (Int.toNat 8) 64))))) H)
def B5:Y k0:=fun a H=>
  ((0:Int)≤4)∧(B4 P (u64.wrap (BitVec.ofInt 64 (u64.wrap ((Int.fdiv a (2^(min (Int.toNat 4) 64)))+a))&&&BitVec.ofInt 64 1085102592571150095).toNat) H)
def B6:Y k0:=fun a H=>
  ((0:Int)≤2)∧(B5 P (u64.wrap ((u64.wrap (BitVec.ofInt 64 (Int.fdiv a (2^(min (Int.toNat 2) 64)))&&&BitVec.ofInt 64 3689348814741910323).toNat)+(u64.wrap (BitVec.ofInt 64 a&&&BitVec.ofInt 64 3689348814741910323).toNat))) H)
def B7:Y k0:=fun a H=>
  ((0:Int)≤1)∧(B6 P (u64.wrap ((u64.wrap (BitVec.ofInt 64 (Int.fdiv a (2^(min (Int.toNat 1) 64)))&&&BitVec.ofInt 64 6148914691236517205).toNat)+(u64.wrap (BitVec.ofInt 64 a&&&BitVec.ofInt 64 6148914691236517205).toNat))) H)
def B8:Y k0:=fun a H=>
  B7 P a H
theorem main:Z Tryz.f160 35 k0 (B8 P) P:=
  s (B7 P) (s (B6 P) (s (B5 P) (s (B4 P) (s (B3 P) (s (B2 P) (s (B1 P) (e ())))))))
theorem ac (a:Int) (H:AHeap) (h:B8 P a H):A 160 [(int .u64 a)] H P:=
  fn Tryz.func160 (main P) h
end F160
namespace F161
variable (P:PT)
def ret (P:PT):EP:=retE T0 20 Tryz.f161 P
abbrev k0:Sk:=[(1,.v),(2,.x)]
def B1:Y k0:=fun f b H=>
  li H b 0 (fun g=>A 193 [(I g)] H (fun h a=>asB h (fun i=>pif i (li a b 0 (fun j=>A 55 [f] a (fun k c=>asI .i64 k (fun l=>(AHeap.le a c)∧(pif ((l:Int)==(i64.wrap (Int.tdiv (i64.wrap (3*j)) 2))) (A 162 [f,(func (.func 194) ⟨[]⟩ ⟨[(pointer (some ⟨b,0,none⟩))]⟩)] c (fun m d=>asB m (fun e=>P (bool e) d))) (P (bool false) c)))))) (P (bool false) a))))
abbrev k1:Sk:=[(0,J),(1,.v)]
def B2:Y k1:=fun a b H=>
  newK H [(I a)] 2 (fun c d=>B1 P b c d)
theorem main:Z Tryz.f161 20 k1 (B2 P) P:=
  s (B1 P) (zBW (d [(0,false),(1,false),(2,false),(3,false),(5,false),(6,false),(7,false),(4,true),(8,false),(9,false),(10,false),(11,false),(12,false),(13,false),(14,false),(15,false)] (ret P)) zBV)
theorem ac (a:Int) (b:Value) (H:AHeap) (h:B2 P a b H):A 161 [(I a),b] H P:=
  fn Tryz.func161 (main P) h
end F161
namespace F162
variable (P:PT)
abbrev k0:Sk:=[(0,.v),(3,.x)]
def B1:Y k0:=fun a b H=>
  A 195 [a,(func (.func 196) ⟨[]⟩ ⟨[(pointer (some ⟨b,0,none⟩))]⟩)] H (fun c d=>asB c (fun e=>P (bool (!e)) d))
abbrev k1:Sk:=[(0,.v),(1,.v)]
def B2:Y k1:=fun b a H=>
  pif (Value.oneCell' a) (newK H [a] 161 (fun c d=>B1 P b c d)) False
theorem main:Z Tryz.f162 9 k1 (B2 P) P:=
  s (B1 P) (e ())
theorem ac (a b:Value) (H:AHeap) (h:B2 P a b H):A 162 [a,b] H P:=
  fn Tryz.func162 (main P) h
end F162
namespace F163
variable (P:PT)
abbrev k0:Sk:=[(1,.x)]
def B1:Y k0:=fun a H=>
  li H a 0 (fun b=>li H a 1 (fun c=>P (bool (decide ((b:Int)<c))) H))
abbrev k1:Sk:=[(0,.g [.i,.i])]
def B2:Y k1:=fun a b H=>
  newK H [(I a),(I b)] 66 (fun c d=>B1 P c d)
theorem main:Z Tryz.f163 8 k1 (B2 P) P:=
  s (B1 P) (e ())
theorem ac (a b:Int) (H:AHeap) (h:B2 P a b H):A 163 [(agg ⟨[(I a),(I b)]⟩)] H P:=
  fn Tryz.func163 (main P) h
end F163
namespace F164
variable (P:PT)
abbrev k0:Sk:=[]
def B1:Y k0:=fun H=>
  P (bool true) H
abbrev k1:Sk:=[(0,.v),(1,.v),(5,J)]
def B3 (P:PT) (a:Y k1):Y k1:=fun b c d H=>
  a b c (i64.wrap (d-1)) H
def B4 (a:Y k1):Y k0:=fun H=>
  P (bool false) H
def B5 (e:Y k1):Y k1:=fun b f c H=>
  idxK b c 2 (fun g h=>li H g h (fun k=>li H g (h+1) (fun l=>idxK b (i64.wrap (c-1)) 2 (fun i j=>li H i j (fun m=>li H i (j+1) (fun n=>callV Tryz.prog T0 f [(agg ⟨[(I k),(I l)]⟩),(agg ⟨[(I m),(I n)]⟩)] H (fun o a=>asI .i64 o (fun d=>pif (decide ((d:Int)<0)) (B4 P e a) (B3 P e b f c a)))))))))
def B6 (b:Y k1):Y k1:=fun c d a H=>
  pif (decide ((a:Int)>0)) (B5 P b c d a H) (B1 P H)
def L2:Y k1:=fun h i j H=>
  ∃ (I:Y k1) (μ:NTy k1 (AHeap→Nat)),I h i j H∧∀ a b c G,I a b c G→B6 P (fun d e f g=>I d e f g∧μ d e f g<μ a b c G) a b c G
abbrev k2:Sk:=[(0,.v),(1,.v)]
def B7:Y k2:=fun a b H=>
  lenK a (fun c=>L2 P a b (i64.wrap ((c:Int)-1)) H)
def B8:Y k2:=fun a b H=>
  B7 P a b H
theorem main:Z Tryz.f164 25 k2 (B8 P) P:=
  s (B7 P) (zBW (s (L2 P) (zBC (l (B6 P) (fun N2=>(zBW (zBW (b (cnd 10 (En 25 k1 (B5 P N2)) (En 25 k0 (B1 P)))) (zBN rfl zBS (zBT (fun _ _ h=>h)))) (zBW (zBC (zBW (d (tf 12) (cnd 24 (En 25 k0 (B4 P N2)) (En 25 k1 (B3 P N2)))) (zBN rfl (e ()) zBS))) (a N2))))))) (e ()))
theorem ac (a b:Value) (H:AHeap) (h:B8 P a b H):A 164 [a,b] H P:=
  fn Tryz.func164 (main P) h
end F164
namespace F165
variable (P:PT)
def ret (P:PT):EP:=retE T0 8 Tryz.f165 P
abbrev k0:Sk:=[(2,.x),(3,.x)]
def B1:Y k0:=fun a b H=>
  A 126 [(slice (some ⟨a,0,none⟩) 2 (2+1)),(slice (some ⟨b,0,none⟩) 2 (2+1))] H (fun c d=>asI .i64 c (fun e=>P (I e) d))
abbrev k1:Sk:=[(0,.g [.i,.i]),(1,.g [.i,.i])]
def B2:Y k1:=fun a b c d H=>
  newK H [(I a),(I b)] 66 (fun e f=>newK f [(I c),(I d)] 66 (fun g h=>B1 P e g h))
theorem main:Z Tryz.f165 8 k1 (B2 P) P:=
  s (B1 P) (zBW (d (tf 4) (ret P)) zBV)
theorem ac (a b c d:Int) (H:AHeap) (h:B2 P a b c d H):A 165 [(agg ⟨[(I a),(I b)]⟩),(agg ⟨[(I c),(I d)]⟩)] H P:=
  fn Tryz.func165 (main P) h
end F165
namespace F166
variable (P:PT)
abbrev k0:Sk:=[(5,.v)]
def B1:Y k0:=fun a H=>
  A 139 [a,(func (.func 197) ⟨[]⟩ ⟨[]⟩)] H (fun b c=>asB b (fun d=>P (bool d) c))
abbrev k1:Sk:=[(5,.v),(10,.v),(11,J),(12,J)]
def B3 (P:PT) (d:Y k1):Y k1:=fun e a b c H=>
  d e a b (i64.wrap (c+1)) H
abbrev k2:Sk:=[(5,.v),(7,.x),(10,.v),(11,J),(12,J)]
def B4 (f:Y k1):Y k2:=fun a g b c d H=>
  li H g 1 (fun e=>idxK a e 1 (fun h i=>li H h i (fun j=>idxK a e 1 (fun k l=>stK H k l [(I (i64.wrap (j+1)))] (fun m=>B3 P f a b c d m)))))
def B5 (g:Y k1):Y k2:=fun a e b c d H=>
  li H e 0 (fun f=>idxK a f 1 (fun h i=>li H h i (fun j=>idxK a f 1 (fun k l=>stK H k l [(I (i64.wrap (j+1)))] (fun m=>B4 P g a e b c d m)))))
def B6 (g:Y k1):Y k1:=fun h a c b H=>
  idxK a b 2 (fun d e=>li H d e (fun i=>li H d (e+1) (fun j=>newK H [(I 0),(I 0)] 66 (fun f k=>stK k f 0 [(I i),(I j)] (fun l=>B5 P g h f a c b l)))))
def B7 (e:Y k1):Y k1:=fun d c a b H=>
  pif (decide ((b:Int)<a)) (B6 P e d c a b H) (B1 P d H)
def L2:Y k1:=fun m g h i H=>
  ∃ (I:Y k1) (μ:NTy k1 (AHeap→Nat)),I m g h i H∧∀ j a b c G,I j a b c G→B7 P (fun k d e f l=>I k d e f l∧μ k d e f l<μ j a b c G) j a b c G
abbrev k3:Sk:=[(1,.v),(5,.v)]
def B8:Y k3:=fun a b H=>
  lenK a (fun c=>L2 P b a (c:Int) 0 H)
abbrev k4:Sk:=[(0,J),(1,.v)]
def B9:Y k4:=fun a b H=>
  mkR H 8 3 [(I 0)] a a (fun c d=>B8 P b c d)
def B10:Y k4:=fun a b H=>
  B9 P a b H
theorem main:Z Tryz.f166 33 k4 (B10 P) P:=
  s (B9 P) (s (B8 P) (zBW (s (L2 P) (zBC (l (B7 P) (fun N2=>(zBW (b (cnd 13 (En 33 k1 (B6 P N2)) (En 33 k0 (B1 P)))) (zBW (zBN rfl zBS (zBT (fun _ _ h=>h))) (zBW (zBC (s (B5 P N2) (s (B4 P N2) (a (B3 P N2))))) (a N2)))))))) (e ())))
theorem ac (a:Int) (b:Value) (H:AHeap) (h:B10 P a b H):A 166 [(I a),b] H P:=
  fn Tryz.func166 (main P) h
end F166
namespace F167
variable (P:PT)
abbrev k0:Sk:=[(0,.v)]
def B1:Y k0:=fun a H=>
  P a H
abbrev k1:Sk:=[(0,.v),(1,.v),(5,J)]
def B3 (P:PT) (a:Y k1):Y k1:=fun b c d H=>
  a b c (i64.wrap (d+1)) H
def B4 (f:Y k1):Y k1:=fun g a b H=>
  idxK a b 1 (fun h i=>li H h i (fun j=>lenK a (fun e=>nzK (e:Int) (idxK a (Int.tmod (i64.wrap (b+1)) (e:Int)) 1 (fun k l=>li H k l (fun m=>newK H [(I j),(I m)] 66 (fun n o=>apK T0 66 o g (slice (some ⟨n,0,none⟩) 1 (1+1)) (fun c d=>B3 P f c a b d))))))))
def B5 (d:Y k1):Y k1:=fun a b c H=>
  lenK b (fun e=>pif (decide ((c:Int)<(e:Int))) (B4 P d a b c H) (B1 P a H))
def L2:Y k1:=fun h i j H=>
  ∃ (I:Y k1) (μ:NTy k1 (AHeap→Nat)),I h i j H∧∀ a b c G,I a b c G→B5 P (fun d e f g=>I d e f g∧μ d e f g<μ a b c G) a b c G
abbrev k2:Sk:=[(0,.v),(1,.v)]
def B6:Y k2:=fun a b H=>
  L2 P a b 0 H
def B7:Y k2:=fun a b H=>
  B6 P a b H
theorem main:Z Tryz.f167 29 k2 (B7 P) P:=
  s (B6 P) (zBW (s (L2 P) (zBC (l (B5 P) (fun N2=>(zBW (zBW (b (cnd 9 (En 29 k1 (B4 P N2)) (En 29 k0 (B1 P)))) (zBN rfl zBS (zBT (fun _ _ h=>h)))) (zBW (zBC (d (tf 17) (En 29 k1 (B3 P N2)))) (a N2))))))) (e ()))
theorem ac (a b:Value) (H:AHeap) (h:B7 P a b H):A 167 [a,b] H P:=
  fn Tryz.func167 (main P) h
end F167
namespace F168
variable (P:PT)
abbrev k0:Sk:=[(0,.v)]
def B1:Y k0:=fun a H=>
  newK H [] 2 (fun b c=>apK T0 2 c (slice (some ⟨b,0,none⟩) 0 (0+1)) a (fun d e=>P d e))
def B2:Y k0:=fun a H=>
  B1 P a H
theorem main:Z Tryz.f168 6 k0 (B2 P) P:=
  s (B1 P) (e ())
theorem ac (a:Value) (H:AHeap) (h:B2 P a H):A 168 [a] H P:=
  fn Tryz.func168 (main P) h
end F168
namespace F169
variable (P:PT)
abbrev k0:Sk:=[(7,.v)]
def B1:Y k0:=fun a H=>
  P a H
abbrev k1:Sk:=[(2,J),(3,.x),(7,.v),(9,.v),(10,J)]
def B3 (P:PT) (b:Y k1):Y k1:=fun c d e f a H=>
  b c d e f (i64.wrap (a+1)) H
abbrev k2:Sk:=[(2,J),(3,.x),(7,.v),(9,.v),(10,J),(11,.v),(12,J)]
def B5 (P:PT) (i:Y k1) (d:Y k2):Y k2:=fun e f g h a b c H=>
  d e f g h a b (i64.wrap (c+1)) H
abbrev k3:Sk:=[(2,J),(3,.x),(7,.v),(9,.v),(10,J),(11,.v),(12,J),(13,J)]
def B6 (e:Y k1) (f:Y k2):Y k3:=fun g h i j a b c d H=>
  newK H [(I d)] 2 (fun k l=>apK T0 2 l j (slice (some ⟨k,0,none⟩) 1 (1+1)) (fun m n=>B5 P e f g h i m a b c n))
def B7 (g:Y k1) (h:Y k2):Y k3:=fun i j c f a d e b H=>
  idxK f a 1 (fun k l=>li H k l (fun m=>idxK c m 1 (fun n o=>li H n o (fun p=>idxK c b 1 (fun q r=>stK H q r [(I (i64.wrap (p+1)))] (fun s=>B6 P g h i j c f a d e b s))))))
def B8 (g:Y k1) (h:Y k2):Y k3:=fun e i f j c a b d H=>
  idxK a b 1 (fun k l=>li H k l (fun m=>pif ((m:Int) != e) (idxK f d 1 (fun n o=>li H n o (fun p=>pif (decide ((p:Int)<0)) (B7 P g h e i f j c a b d H) (B5 P g h e i f j c a b H)))) (B5 P g h e i f j c a b H)))
def B9 (h:Y k1) (i:Y k2):Y k2:=fun j d k g a b c H=>
  li H d 0 (fun l=>ld1 H d 1 (fun m=>idxK b c 1 (fun n o=>li H n o (fun p=>idxK g a 1 (fun q r=>li H q r (fun s=>A 170 [(agg ⟨[(I l),m]⟩),(I p),(I s)] H (fun t e=>asI .i64 t (fun f=>B8 P h i j d k g a b c f e))))))))
def B10 (d:Y k1) (i:Y k2):Y k2:=fun e f g h a b c H=>
  lenK b (fun j=>pif (decide ((c:Int)<(j:Int))) (B9 P d i e f g h a b c H) (B3 P d e f g h a H))
def L4 (s:Y k1):Y k2:=fun t u v w g h i H=>
  ∃ (I:Y k2) (μ:NTy k2 (AHeap→Nat)),I t u v w g h i H∧∀ j k l m a b c G,I j k l m a b c G→B10 P s (fun n o p q d e f r=>I n o p q d e f r∧μ n o p q d e f r<μ j k l m a b c G) j k l m a b c G
abbrev k4:Sk:=[(2,J),(3,.x),(7,.v),(9,.v),(10,J),(11,.v)]
def B11 (c:Y k1):Y k4:=fun d e f g a b H=>
  L4 P c d e f g a b 0 H
def B12 (d:Y k1):Y k1:=fun e b f c a H=>
  li H b 0 (fun g=>ld1 H b 1 (fun h=>idxK c a 1 (fun i j=>li H i j (fun k=>A 82 [(agg ⟨[(I g),h]⟩),(I k)] H (fun l m=>B11 P d e b f c a l m)))))
def B13 (d:Y k1):Y k1:=fun e f b c a H=>
  lenK c (fun g=>pif (decide ((a:Int)<(g:Int))) (B12 P d e f b c a H) (B1 P b H))
def L2:Y k1:=fun m n o p c H=>
  ∃ (I:Y k1) (μ:NTy k1 (AHeap→Nat)),I m n o p c H∧∀ d e f g a G,I d e f g a G→B13 P (fun h i j k b l=>I h i j k b l∧μ h i j k b l<μ d e f g a G) d e f g a G
abbrev k5:Sk:=[(2,J),(3,.x),(7,.v),(9,.v)]
def B14:Y k5:=fun a b c d H=>
  L2 P a b c d 0 H
abbrev k6:Sk:=[(1,J),(2,J),(3,.x),(7,.v)]
def B15:Y k6:=fun a b c d H=>
  newK H [(I a)] 2 (fun e f=>B14 P b c d (slice (some ⟨e,0,none⟩) 1 (1+1)) f)
def B16:Y k6:=fun a c d b H=>
  idxK b a 1 (fun e f=>stK H e f [(I 0)] (fun g=>B15 P a c d b g))
abbrev k7:Sk:=[(1,J),(2,J),(3,.x),(7,.v),(8,J)]
def B18 (P:PT) (a:Y k7):Y k7:=fun b c d e f H=>
  a b c d e (i64.wrap (f+1)) H
def B19 (a:Y k7):Y k7:=fun d e f b c H=>
  idxK b c 1 (fun g h=>stK H g h [(I (-1))] (fun i=>B18 P a d e f b c i))
def B20 (a:Y k7):Y k7:=fun c d b e f H=>
  li H b 0 (fun g=>pif (decide ((f:Int)<g)) (B19 P a c d b e f H) (B16 P c d b e H))
def L17:Y k7:=fun l m n o p H=>
  ∃ (I:Y k7) (μ:NTy k7 (AHeap→Nat)),I l m n o p H∧∀ a b c d e G,I a b c d e G→B20 P (fun f g h i j k=>I f g h i j k∧μ f g h i j k<μ a b c d e G) a b c d e G
def B21:Y k6:=fun a b c d H=>
  L17 P a b c d 0 H
abbrev k8:Sk:=[(1,J),(2,J),(3,.x)]
def B22:Y k8:=fun c d a H=>
  li H a 0 (fun b=>mkR H 8 2 [(I 0)] b b (fun e f=>B21 P c d a e f))
abbrev k9:Sk:=[(0,.g [.i,.v]),(1,J),(2,J)]
def B23:Y k9:=fun a b c d H=>
  newK H [(I a),b] 26 (fun e f=>B22 P c d e f)
theorem main:Z Tryz.f169 88 k9 (B23 P) P:=
  s (B22 P) (s (B21 P) (zBW (s (L17 P) (zBC (l (B20 P) (fun N17=>(zBW (zBW (b (cnd 20 (En 88 k7 (B19 P N17)) (En 88 k6 (B16 P)))) (zBN rfl zBS (zBT (fun _ _ h=>h)))) (zBW (zBC (a (B18 P N17))) (a N17))))))) (s (B15 P) (s (B14 P) (zBW (s (L2 P) (zBC (l (B13 P) (fun N2=>(zBW (zBW (b (cnd 34 (En 88 k1 (B12 P N2)) (En 88 k0 (B1 P)))) (zBN rfl zBS (zBT (fun _ _ h=>h)))) (zBW (zBC (zBW (d (tf 7) (En 88 k4 (B11 P N2))) (s (L4 P N2) (zBC (l (B10 P N2) (fun N4=>(zBW (zBW (b (cnd 46 (En 88 k2 (B9 P N2 N4)) (En 88 k1 (B3 P N2)))) (zBN rfl zBS (zBT (fun _ _ h=>h)))) (zBW (zBC (zBW (d (tf 11) (En 88 k3 (B8 P N2 N4))) (zBW (b (cnd 71 (En 88 k3 (B7 P N2 N4)) (En 88 k2 (B5 P N2 N4)))) (zBN rfl (s (B6 P N2 N4) (a (B5 P N2 N4))) zBS)))) (a N4))))))))) (a N2))))))) (e ()))))))
theorem ac (a:Int) (b:Value) (c d:Int) (H:AHeap) (h:B23 P a b c d H):A 169 [(agg ⟨[(I a),b]⟩),(I c),(I d)] H P:=
  fn Tryz.func169 (main P) h
end F169
namespace F170
variable (P:PT)
def ret (P:PT):EP:=retE T0 22 Tryz.f170 P
abbrev k0:Sk:=[(1,J),(2,J),(3,.x)]
def B1:Y k0:=fun a c b H=>
  ld1 H b 1 (fun d=>idxK d a 2 (fun e f=>li H e f (fun g=>ld1 H b 1 (fun h=>idxK h a 2 (fun i j=>li H i (j+1) (fun k=>P (I (i64.wrap ((i64.wrap (g+k))-c))) H))))))
abbrev k1:Sk:=[(0,.g [.i,.v]),(1,J),(2,J)]
def B2:Y k1:=fun a b c d H=>
  newK H [(I a),b] 26 (fun e f=>B1 P c d e f)
theorem main:Z Tryz.f170 22 k1 (B2 P) P:=
  s (B1 P) (zBW (d (tf 16) (ret P)) zBV)
theorem ac (a:Int) (b:Value) (c d:Int) (H:AHeap) (h:B2 P a b c d H):A 170 [(agg ⟨[(I a),b]⟩),(I c),(I d)] H P:=
  fn Tryz.func170 (main P) h
end F170
namespace F181
variable (P:PT)
abbrev k0:Sk:=[(0,J)]
def B1:Y k0:=fun a H=>
  P (bool ((a:Int) != a)) H
def B2:Y k0:=fun a H=>
  B1 P a H
theorem main:Z Tryz.f181 6 k0 (B2 P) P:=
  s (B1 P) (e ())
theorem ac (a:Int) (H:AHeap) (h:B2 P a H):A 181 [(I a)] H P:=
  fn Tryz.func181 (main P) h
end F181
namespace F182
variable (P:PT)
abbrev k0:Sk:=[(8,.i .u64),(9,.i .u64)]
def B1:Y k0:=fun a b H=>
  P (tuple ⟨[(int .u64 a),(int .u64 b)]⟩) H
abbrev k1:Sk:=[(0,.i .u64),(1,.i .u64)]
def B2:Y k1:=fun a b H=>
  A 204 [(int .u64 a),(int .u64 b)] H (fun c d=>tup2 c (fun e f=>asI .u64 e (fun g=>asI .u64 f (fun h=>B1 P g h d))))
def B3:Y k1:=fun a b H=>
  B2 P a b H
theorem main:Z Tryz.f182 30 k1 (B3 P) P:=
  s (B2 P) (zBW (zBy zBS) (s (B1 P) (e ())))
theorem ac (a b:Int) (H:AHeap) (h:B3 P a b H):A 182 [(int .u64 a),(int .u64 b)] H P:=
  fn Tryz.func182 (main P) h
end F182
namespace F183
variable (P:PT)
abbrev k0:Sk:=[(21,J)]
def B1:Y k0:=fun a H=>
  P (I a) H
abbrev k1:Sk:=[(1,J),(2,J),(3,.v),(4,.v),(5,.v),(6,J),(7,.b),(8,.x),(17,J),(18,J),(20,J),(21,J),(22,J)]
def B3 (P:PT) (f:Y k1):Y k1:=fun g h i j k l m n a b c d e H=>
  f g h i j k l m n a b c d (i64.wrap (e+1)) H
def B4 (b:Y k1):Y k0:=fun a H=>
  P (I a) H
def B5 (f:Y k1):Y k1:=fun h i j k l m g n b c d a e H=>
  pif (decide ((a:Int)>0)) (pif (!g) (B4 P f a H) (B3 P f h i j k l m g n b c d a e H)) (B3 P f h i j k l m g n b c d a e H)
abbrev k2:Sk:=[(1,J),(2,J),(3,.v),(4,.v),(5,.v),(6,J),(7,.b),(8,.x),(17,J),(18,J),(20,J),(21,J),(22,J),(24,J)]
def B6 (h:Y k1):Y k2:=fun i j k g l m n o b a c d e f H=>
  idxK g a 1 (fun p q=>stK H p q [(I f)] (fun r=>B5 P h i j k g l m n o b a c d e r))
abbrev k3:Sk:=[(1,J),(2,J),(3,.v),(4,.v),(5,.v),(6,J),(7,.b),(8,.x),(17,J),(18,J),(20,J),(21,J),(22,J),(23,J),(24,J)]
def B7 (i:Y k1):Y k3:=fun j k l h m n o p a b c d e f g H=>
  idxK h a 1 (fun q r=>stK H q r [(I f)] (fun s=>B6 P i j k l h m n o p a b c d e g s))
def B8 (p:Y k1):Y k3:=fun i j k l m n o a b c d e f g h H=>
  li H a 0 (fun q=>ld1 H a 1 (fun r=>A 183 [(agg ⟨[(I q),r]⟩),(I i),(I j),k,l,m,(I (i64.wrap (n+1))),(bool o)] H (fun s t=>asI .i64 s (fun u=>B7 P p i j k l m n o a b c d (i64.wrap (e+u)) f g h t))))
def B9 (j:Y k1):Y k3:=fun k l h m n i o p b c d e a f g H=>
  idxK h i 1 (fun q r=>stK H q r [(I a)] (fun s=>B8 P j k l h m n i o p b c d e a f g s))
def B10 (n:Y k1):Y k3:=fun i j o k l m p q b a c d e f g H=>
  idxK l b 1 (fun S T=>li H S T (fun U=>pif ((U:Int) != m) (idxK l a 1 (fun V X=>li H V X (fun v6=>pif ((v6:Int) != m) (B9 P n i j o k l m p q b a c d e f g H) (idxK k a 1 (fun b7 o8=>li H b7 o8 (fun v9=>A 205 [(I i),(I j),(I v9)] H (fun t r=>asB t (fun u=>pif u (B9 P n i j o k l m p q b a c d e f g r) (B7 P n i j o k l m p q b a c d e f g r))))))))) (idxK k b 1 (fun v w=>li H v w (fun x=>A 205 [(I i),(I j),(I x)] H (fun y h=>asB y (fun z=>pif z (idxK l a 1 (fun C D=>li h C D (fun F=>pif ((F:Int) != m) (B9 P n i j o k l m p q b a c d e f g h) (idxK k a 1 (fun G K=>li h G K (fun L=>A 205 [(I i),(I j),(I L)] h (fun Q s=>asB Q (fun R=>pif R (B9 P n i j o k l m p q b a c d e f g s) (B7 P n i j o k l m p q b a c d e f g s))))))))) (B7 P n i j o k l m p q b a c d e f g h))))))))
def B11 (i:Y k1):Y k3:=fun j k l h m n o p d a e f b g c H=>
  idxK h a 1 (fun q r=>stK H q r [(I (i64.wrap (BitVec.ofInt 64 c ^^^ BitVec.ofInt 64 b).toNat))] (fun s=>B10 P i j k l h m n o p d a e f b g c s))
def B12 (i:Y k1):Y k3:=fun j k l h m n o p a d e f b c g H=>
  idxK h a 1 (fun q r=>stK H q r [(I (i64.wrap (BitVec.ofInt 64 c ^^^ BitVec.ofInt 64 b).toNat))] (fun s=>B11 P i j k l h m n o p a d e f b c g s))
def B13 (i:Y k1):Y k3:=fun j k l h m n o p d a e f b g c H=>
  idxK h a 1 (fun q r=>stK H q r [(I (i64.wrap (c+b)))] (fun s=>B10 P i j k l h m n o p d a e f b g c s))
def B14 (i:Y k1):Y k3:=fun j k l h m n o p a d e f b c g H=>
  idxK h a 1 (fun q r=>stK H q r [(I (i64.wrap (c-b)))] (fun s=>B13 P i j k l h m n o p a d e f b c g s))
def B15 (i:Y k1):Y k3:=fun h j k l m n o p a b c d e f g H=>
  pif ((h:Int)==1) (B12 P i h j k l m n o p a b c d e f g H) (B14 P i h j k l m n o p a b c d e f g H)
def B16 (g:Y k1):Y k1:=fun h i j c k l m n a b d e f H=>
  idxK c a 1 (fun o p=>li H o p (fun q=>idxK c b 1 (fun r s=>li H r s (fun t=>B15 P g h i j c k l m n a b d e f q t H))))
def B17 (f:Y k1):Y k1:=fun g h i j k l m n b c d e a H=>
  pif ((a:Int)==0) (B3 P f g h i j k l m n b c d e a H) (B16 P f g h i j k l m n b c d e a H)
def B18 (f:Y k1):Y k1:=fun g h i j k l m n d e a b c H=>
  pif (decide ((c:Int)≤a)) (B17 P f g h i j k l m n d e a b c H) (B1 P b H)
def L2:Y k1:=fun R S T U V X x7 x8 k l m n o H=>
  ∃ (I:Y k1) (μ:NTy k1 (AHeap→Nat)),I R S T U V X x7 x8 k l m n o H∧∀ p q r s t u v w a b c d e G,I p q r s t u v w a b c d e G→B18 P (fun x y z C D F K L f g h i j Q=>I x y z C D F K L f g h i j Q∧μ x y z C D F K L f g h i j Q<μ p q r s t u v w a b c d e G) p q r s t u v w a b c d e G
abbrev k4:Sk:=[(1,J),(2,J),(3,.v),(4,.v),(5,.v),(6,J),(7,.b),(8,.x),(17,J),(18,J),(19,J),(20,J),(21,J)]
def B19:Y k4:=fun f g h i j k l m a b c d e H=>
  L2 P f g h i j k l m a b d e c H
abbrev k5:Sk:=[(1,J),(2,J),(3,.v),(4,.v),(5,.v),(6,J),(7,.b),(8,.x),(17,J),(18,J),(20,J),(21,J)]
def B20:Y k5:=fun f e g h i j k l a b c d H=>
  B19 P f e g h i j k l a b (i64.wrap (1-e)) c d H
def B21:Y k4:=fun e g h i j k l m a b f c d H=>
  pif ((e:Int)==2) (B20 P e g h i j k l m a b c d H) (B19 P e g h i j k l m a b f c d H)
abbrev k6:Sk:=[(1,J),(2,J),(3,.v),(4,.v),(5,.v),(6,J),(7,.b),(8,.x),(17,J),(18,J)]
def B22:Y k6:=fun d c e f g h i j a b H=>
  B21 P d c e f g h i j a b 1 (i64.wrap (c-1)) 0 H
abbrev k7:Sk:=[(1,J),(2,J),(3,.v),(4,.v),(5,.v),(6,J),(7,.b),(8,.x)]
def B23:Y k7:=fun c d e f g a h b H=>
  ld1 H b 1 (fun i=>idxK i a 2 (fun j k=>li H j k (fun l=>ld1 H b 1 (fun m=>idxK m a 2 (fun n o=>li H n (o+1) (fun p=>B22 P c d e f g a h b l p H))))))
abbrev k8:Sk:=[]
def B24:Y k8:=fun H=>
  P (I 1) H
def B25:Y k7:=fun c d e f g a h b H=>
  ld1 H b 1 (fun i=>lenK i (fun j=>pif ((a:Int)==(j:Int)) (B24 P H) (B23 P c d e f g a h b H)))
abbrev k9:Sk:=[(0,.g [.i,.v]),(1,J),(2,J),(3,.v),(4,.v),(5,.v),(6,J),(7,.b)]
def B26:Y k9:=fun a b c d e f g h i H=>
  newK H [(I a),b] 26 (fun j k=>B25 P c d e f g h i j k)
theorem main:Z Tryz.f183 154 k9 (B26 P) P:=
  s (B25 P) (zBW (zBW (b (cnd 29 (En 154 k8 (B24 P)) (En 154 k7 (B23 P)))) (zBN rfl (e ()) zBS)) (zBW (d (tf 14) (En 154 k6 (B22 P))) (s (B21 P) (zBW (zBW (b (cnd 45 (En 154 k5 (B20 P)) (En 154 k4 (B19 P)))) (zBN rfl (a (B19 P)) zBS)) (zBW (s (L2 P) (zBC (l (B18 P) (fun N2=>(zBW (zBW (b (cnd 51 (En 154 k1 (B17 P N2)) (En 154 k0 (B1 P)))) (zBN rfl zBS (zBT (fun _ _ h=>h)))) (zBW (zBC (zBW (zBW (b (cnd 55 (En 154 k1 (B3 P N2)) (En 154 k1 (B16 P N2)))) (zBN rfl (zBT (fun _ _ h=>h)) zBS)) (zBW (d (tf 10) (En 154 k3 (B15 P N2))) (zBW (zBW (b (cnd 65 (En 154 k3 (B12 P N2)) (En 154 k3 (B14 P N2)))) (zBN rfl (s (B11 P N2) (a (B10 P N2))) (s (B13 P N2) (a (B10 P N2))))) (zBW (zBW (b (cnd 121 (En 154 k3 (B9 P N2)) (En 154 k3 (B7 P N2)))) (zBN rfl (s (B8 P N2) (a (B7 P N2))) zBS)) (s (B6 P N2) (s (B5 P N2) (zBW (b (cnd 151 (En 154 k0 (B4 P N2)) (En 154 k1 (B3 P N2)))) (zBN rfl (e ()) zBS))))))))) (a N2))))))) (e ()))))))
theorem ac (a:Int) (b:Value) (c d:Int) (e f g:Value) (i:Int) (j:Bool) (H:AHeap) (h:B26 P a b c d e f g i j H):A 183 [(agg ⟨[(I a),b]⟩),(I c),(I d),e,f,g,(I i),(bool j)] H P:=
  fn Tryz.func183 (main P) h
end F183
namespace F184
variable (P:PT)
abbrev k0:Sk:=[(3,.v)]
def B1:Y k0:=fun a H=>
  P a H
abbrev k1:Sk:=[(1,.x),(3,.v),(4,J)]
def B3 (P:PT) (a:Y k1):Y k1:=fun b c d H=>
  a b c (i64.wrap (d+1)) H
def B4 (d:Y k1):Y k1:=fun b c a H=>
  ld1 H b 1 (fun e=>idxK e a 2 (fun f g=>li H f (g+1) (fun h=>idxK c h 1 (fun i j=>stK H i j [(I a)] (fun k=>B3 P d b c a k)))))
def B5 (d:Y k1):Y k1:=fun b c a H=>
  ld1 H b 1 (fun e=>idxK e a 2 (fun f g=>li H f g (fun h=>idxK c h 1 (fun i j=>stK H i j [(I a)] (fun k=>B4 P d b c a k)))))
def B6 (d:Y k1):Y k1:=fun a b c H=>
  ld1 H a 1 (fun e=>lenK e (fun f=>pif (decide ((c:Int)<(f:Int))) (B5 P d a b c H) (B1 P b H)))
def L2:Y k1:=fun h i j H=>
  ∃ (I:Y k1) (μ:NTy k1 (AHeap→Nat)),I h i j H∧∀ a b c G,I a b c G→B6 P (fun d e f g=>I d e f g∧μ d e f g<μ a b c G) a b c G
abbrev k2:Sk:=[(1,.x),(3,.v)]
def B7:Y k2:=fun a b H=>
  L2 P a b 0 H
abbrev k3:Sk:=[(1,.x)]
def B8:Y k3:=fun a H=>
  li H a 0 (fun b=>mkR H 8 2 [(I 0)] b b (fun c d=>B7 P a c d))
abbrev k4:Sk:=[(0,.g [.i,.v])]
def B9:Y k4:=fun a b H=>
  newK H [(I a),b] 26 (fun c d=>B8 P c d)
theorem main:Z Tryz.f184 34 k4 (B9 P) P:=
  s (B8 P) (s (B7 P) (zBW (s (L2 P) (zBC (l (B6 P) (fun N2=>(zBW (zBW (b (cnd 12 (En 34 k1 (B5 P N2)) (En 34 k0 (B1 P)))) (zBN rfl zBS (zBT (fun _ _ h=>h)))) (zBW (zBC (s (B4 P N2) (a (B3 P N2)))) (a N2))))))) (e ())))
theorem ac (a:Int) (b:Value) (H:AHeap) (h:B9 P a b H):A 184 [(agg ⟨[(I a),b]⟩)] H P:=
  fn Tryz.func184 (main P) h
end F184
namespace F185
variable (P:PT)
abbrev k0:Sk:=[(0,.v),(1,.v)]
def B1:Y k0:=fun a b H=>
  A 206 [a,b] H (fun c d=>asI .i64 c (fun e=>P (bool (decide ((e:Int)≥0))) d))
def B2:Y k0:=fun a b H=>
  B1 P a b H
theorem main:Z Tryz.f185 9 k0 (B2 P) P:=
  s (B1 P) (e ())
theorem ac (a b:Value) (H:AHeap) (h:B2 P a b H):A 185 [a,b] H P:=
  fn Tryz.func185 (main P) h
end F185
namespace F186
variable (P:PT)
abbrev k0:Sk:=[(0,.v),(1,.v)]
def B1:Y k0:=fun a b H=>
  asP b (fun c d=>ld1 H c d (fun e=>callV Tryz.prog T0 e [a] H (fun f g=>asB f (fun h=>P (bool (!h)) g))))
def B2:Y k0:=fun a b H=>
  B1 P a b H
theorem main:Z Tryz.f186 8 k0 (B2 P) P:=
  s (B1 P) (e ())
theorem ac (a b:Value) (H:AHeap) (h:B2 P a b H):A 186 [a,b] H P:=
  fn Tryz.func186 (main P) h
end F186
namespace F187
variable (P:PT)
abbrev k0:Sk:=[(0,.v),(1,.v)]
def B1:Y k0:=fun a b H=>
  A 207 [a,b] H (fun c d=>asI .i64 c (fun e=>P (bool (decide ((e:Int)≥0))) d))
def B2:Y k0:=fun a b H=>
  B1 P a b H
theorem main:Z Tryz.f187 9 k0 (B2 P) P:=
  s (B1 P) (e ())
theorem ac (a b:Value) (H:AHeap) (h:B2 P a b H):A 187 [a,b] H P:=
  fn Tryz.func187 (main P) h
end F187
namespace F188
variable (P:PT)
abbrev k0:Sk:=[(0,J),(1,.v)]
def B1:Y k0:=fun a b H=>
  asP b (fun c d=>ld1 H c d (fun e=>callV Tryz.prog T0 e [(I a)] H (fun f g=>asB f (fun h=>P (bool (!h)) g))))
def B2:Y k0:=fun a b H=>
  B1 P a b H
theorem main:Z Tryz.f188 8 k0 (B2 P) P:=
  s (B1 P) (e ())
theorem ac (a:Int) (b:Value) (H:AHeap) (h:B2 P a b H):A 188 [(I a),b] H P:=
  fn Tryz.func188 (main P) h
end F188
namespace F189
variable (P:PT)
abbrev k0:Sk:=[(16,.b)]
def B1:Y k0:=fun a H=>
  P (bool a) H
abbrev k1:Sk:=[(6,.v),(13,J),(16,.b)]
def B2:Y k1:=fun d a b H=>
  asP d (fun e f=>ld1 H e f (fun c=>idxK c a 1 (fun g h=>li H g h (fun i=>idxK c a 1 (fun j k=>stK H j k [(I (i64.wrap (i+1)))] (fun l=>B1 P b l))))))
abbrev k2:Sk:=[(6,.v),(12,J),(13,J),(16,.b)]
def B3:Y k2:=fun d a b c H=>
  asP d (fun f g=>ld1 H f g (fun e=>idxK e a 1 (fun h i=>li H h i (fun j=>idxK e a 1 (fun k l=>stK H k l [(I (i64.wrap (j+1)))] (fun m=>B2 P d b c m))))))
abbrev k3:Sk:=[(5,.v),(6,.v),(12,J),(13,J),(14,J),(15,J),(16,.b)]
def B4:Y k3:=fun d o a b e f g H=>
  asP d (fun p q=>ld1 H p q (fun r=>asP d (fun s t=>ld1 H s t (fun n=>idxK r a 1 (fun u v=>stK H u v [(I e)] (fun c=>(asP d (fun h i=>ld1 c h i (fun j=>(j=n)∧(c=c))))∧(idxK n b 1 (fun k l=>stK c k l [(I f)] (fun m=>B3 P o a b g m)))))))))
abbrev k4:Sk:=[(0,J),(3,.v),(5,.v),(6,.v),(7,.v),(8,.v),(11,J),(12,J),(13,J),(14,J),(15,J),(16,.b),(63,.v),(64,J),(65,J)]
def B6 (P:PT) (j:Y k4):Y k4:=fun k l m n o p a b c d e f g h i H=>
  j k l m n o p a b c d e f g h (i64.wrap (i+1)) H
abbrev k5:Sk:=[(5,.v),(6,.v),(12,J),(13,J),(14,J),(15,J)]
def B7 (g:Y k4):Y k5:=fun e f a b c d H=>
  B4 P e f a b c d true H
def B8 (p:Y k4):Y k4:=fun q s l m n r f b c d e g h i j H=>
  asP n (fun b1 o2=>ld1 H b1 (o2+2) (fun v3=>asP l (fun b4 o5=>ld1 H b4 o5 (fun v6=>idxK v6 b 1 (fun b7 o8=>li H b7 o8 (fun v9=>asP m (fun t u=>ld1 H t u (fun v=>idxK v b 1 (fun w x=>li H w x (fun y=>callV Tryz.prog T0 v3 [(I v9),(I y)] H (fun z a=>asB z (fun C=>pif C (asP n (fun D F=>ld1 a D (F+2) (fun G=>asP l (fun K L=>ld1 a K L (fun Q=>idxK Q c 1 (fun R S=>li a R S (fun T=>asP m (fun U V=>ld1 a U V (fun X=>idxK X c 1 (fun aa ab=>li a aa ab (fun ac=>callV Tryz.prog T0 G [(I T),(I ac)] a (fun ad k=>asB ad (fun ae=>pif ae (asP r (fun af ag=>ld1 k af ag (fun ah=>callV Tryz.prog T0 ah [(I (i64.wrap (q+1)))] k (fun ai o=>asB ai (fun aj=>pif aj (B7 P p l m b c d e o) (B6 P p q s l m n r f b c d e g h i j o)))))) (B6 P p q s l m n r f b c d e g h i j k)))))))))))))) (B6 P p q s l m n r f b c d e g h i j a)))))))))))))
abbrev k6:Sk:=[(0,J),(3,.v),(5,.v),(6,.v),(7,.v),(8,.v),(11,J),(12,J),(13,J),(14,J),(15,J),(16,.b),(18,J),(63,.v),(64,J),(65,J)]
def B9 (l:Y k4):Y k6:=fun m k n o p q a b c d e f g h i j H=>
  asP k (fun r s=>ld1 H r s (fun t=>idxK t a 1 (fun u v=>stK H u v [(I g)] (fun w=>B8 P l m k n o p q a b c d e f h i j w))))
def B10 (N5:Y k4):Y k6:=fun x0 x3 d x6 n x8 o f g h i p e q r s H=>
  asP d (fun b1 o2=>ld1 H b1 o2 (fun t=>asP d (fun b4 o5=>ld1 H b4 o5 (fun m=>asP n (fun b7 o8=>ld1 H b7 (o8+1) (fun v9=>asP n (fun j k=>ld1 H j (k+1) (fun l=>callV Tryz.prog T0 v9 [(I h),(I e),(bool false)] H (fun u a=>asI .i64 u (fun v=>(asP d (fun w x=>ld1 a w x (fun y=>(y=t)∧(a=a))))∧((asP d (fun z C=>ld1 a z C (fun D=>(D=m)∧(a=a))))∧((ld1 a j (k+1) (fun F=>(F=l)∧(a=a)))∧(callV Tryz.prog T0 l [(I i),(I e),(bool true)] a (fun G b=>asI .i64 G (fun K=>(asP d (fun L Q=>ld1 b L Q (fun R=>(R=t)∧(b=b))))∧((asP d (fun S T=>ld1 b S T (fun U=>(U=m)∧(b=b))))∧(idxK t f 1 (fun V X=>stK b V X [(I v)] (fun c=>(asP d (fun aa ab=>ld1 c aa ab (fun ac=>(ac=m)∧(c=c))))∧(idxK m g 1 (fun ad ae=>stK c ad ae [(I K)] (fun af=>B9 P N5 x0 x3 d x6 n x8 o f g h i p e q r s af))))))))))))))))))))))
def B11 (j:Y k4):Y k4:=fun k l m n o p c d e f g h a i b H=>
  idxK a b 1 (fun q r=>li H q r (fun s=>B10 P j k l m n o p c d e f g h s a i b H))
def B12 (l:Y k4):Y k4:=fun m n j k o p h a b c d e i f g H=>
  pif (decide ((g:Int)<f)) (B11 P l m n j k o p h a b c d e i f g H) (B4 P j k a b c d e H)
def L5:Y k4:=fun x0 x3 x5 x6 x7 x8 s t u v w x y z C H=>
  ∃ (I:Y k4) (μ:NTy k4 (AHeap→Nat)),I x0 x3 x5 x6 x7 x8 s t u v w x y z C H∧∀ D F K L Q R a b c d e f g h i G,I D F K L Q R a b c d e f g h i G→B12 P (fun S T U V X z8 j k l m n o p q r G'=>I S T U V X z8 j k l m n o p q r G'∧μ S T U V X z8 j k l m n o p q r G'<μ D F K L Q R a b c d e f g h i G) D F K L Q R a b c d e f g h i G
abbrev k7:Sk:=[(0,J),(3,.v),(5,.v),(6,.v),(7,.v),(8,.v),(11,J),(12,J),(13,J),(14,J),(15,J),(16,.b)]
def B13:Y k7:=fun i j k l g m a b c d e f H=>
  asP g (fun n o=>ld1 H n o (fun h=>lenK h (fun p=>L5 P i j k l g m a b c d e f h (p:Int) 0 H)))
abbrev k8:Sk:=[(0,J),(3,.v),(5,.v),(6,.v),(7,.v),(8,.v),(11,J),(12,J),(13,J),(14,J),(15,J)]
def B14:Y k8:=fun f g h i j k a b c d e H=>
  B13 P f g h i j k a b c d e false H
def B15:Y k8:=fun h i j f k l b c a d e H=>
  asP f (fun m n=>ld1 H m n (fun g=>idxK g a 1 (fun o p=>li H o p (fun q=>idxK g a 1 (fun r s=>stK H r s [(I (i64.wrap (q-1)))] (fun t=>B14 P h i j f k l b c a d e t))))))
def B16:Y k8:=fun h i j f k l b a c d e H=>
  asP f (fun m n=>ld1 H m n (fun g=>idxK g a 1 (fun o p=>li H o p (fun q=>idxK g a 1 (fun r s=>stK H r s [(I (i64.wrap (q-1)))] (fun t=>B15 P h i j f k l b a c d e t))))))
abbrev k9:Sk:=[(0,J),(3,.v),(5,.v),(6,.v),(7,.v),(8,.v),(11,J),(12,J),(13,J)]
def B17:Y k9:=fun h i c j k l d a b H=>
  asP c (fun m n=>ld1 H m n (fun o=>idxK o a 1 (fun p q=>li H p q (fun r=>asP c (fun s t=>ld1 H s t (fun u=>idxK u b 1 (fun e f=>li H e f (fun g=>B16 P h i c j k l d a b r g H))))))))
abbrev k10:Sk:=[(0,J),(3,.v),(4,.v),(5,.v),(6,.v),(7,.v),(8,.v),(11,J)]
def B18:Y k10:=fun f g e h i j k a H=>
  asP e (fun l m=>ld1 H l (m+1) (fun n=>idxK n a 2 (fun o p=>li H o p (fun q=>asP e (fun r s=>ld1 H r (s+1) (fun t=>idxK t a 2 (fun b c=>li H b (c+1) (fun d=>B17 P f g h i j k a q d H))))))))
abbrev k11:Sk:=[(0,J),(1,.v),(3,.v),(4,.v),(5,.v),(6,.v),(7,.v),(8,.v)]
def B19:Y k11:=fun a b c d e f g h H=>
  asP b (fun i j=>ld1 H i j (fun k=>idxK k a 1 (fun l m=>li H l m (fun n=>B18 P a c d e f g h n H))))
abbrev k12:Sk:=[(2,.v),(3,.v)]
def B20:Y k12:=fun a b H=>
  asP a (fun c d=>ld1 H c d (fun e=>asP b (fun f g=>ld1 H f g (fun h=>callV Tryz.prog T0 e [h] H (fun i j=>asB i (fun k=>P (bool k) j))))))
abbrev k13:Sk:=[(0,J),(1,.v),(2,.v),(3,.v),(4,.v),(5,.v),(6,.v),(7,.v),(8,.v)]
def B21:Y k13:=fun a b d c e f g h i H=>
  asP b (fun j k=>ld1 H j k (fun l=>lenK l (fun m=>pif ((a:Int)==(m:Int)) (B20 P d c H) (B19 P a b c e f g h i H))))
def B22:Y k13:=fun a b c d e f g h i H=>
  B21 P a b c d e f g h i H
theorem main:Z Tryz.f189 141 k13 (B22 P) P:=
  s (B21 P) (zBW (zBW (b (cnd 22 (En 141 k12 (B20 P)) (En 141 k11 (B19 P)))) (zBN rfl (e ()) zBS)) (s (B18 P) (zBW (d (tf 14) (En 141 k9 (B17 P))) (zBW (d (tf 10) (En 141 k8 (B16 P))) (s (B15 P) (s (B14 P) (s (B13 P) (zBW (s (L5 P) (zBC (l (B12 P) (fun N5=>(zBW (b (cnd 66 (En 141 k4 (B11 P N5)) (En 141 k3 (B4 P)))) (zBW (zBN rfl zBS (zBT (fun _ _ h=>h))) (zBW (zBC (s (B10 P N5) (zBW (t (.op 0 [] (.op 1 [] (.op 2 [] (.op 3 [] (.op 4 [] (.op 5 [] (.op 6 [] (.op 7 [] (.op 9 [] (.op 10 [] (.op 11 [] (.op 12 [] (.op 8 [0,2,10] (.op 13 [0,2] (.op 14 [] (.op 15 [2] (.op 16 [] (.op 17 [] .done)))))))))))))))))) (En 141 k6 (B9 P N5))) (s (B8 P N5) (zBW (d (tf 30) (cnd 118 (En 141 k5 (B7 P N5)) (En 141 k4 (B6 P N5)))) (zBN rfl (s (B4 P) (zBT (fun _ _ h=>h))) zBS)))))) (a N5)))))))) (zBW (t (.op 0 [] (.op 1 [] (.op 2 [] (.op 3 [] (.op 4 [] (.op 5 [] (.op 6 [] (.op 7 [2] (.op 8 [] (.op 9 [] .done)))))))))) (En 141 k2 (B3 P))) (s (B2 P) (s (B1 P) (e ()))))))))))))
theorem ac (a:Int) (b c d e f g i j:Value) (H:AHeap) (h:B22 P a b c d e f g i j H):A 189 [(I a),b,c,d,e,f,g,i,j] H P:=
  fn Tryz.func189 (main P) h
end F189
namespace F190
variable (P:PT)
abbrev k0:Sk:=[]
def B1:Y k0:=fun H=>
  P (I (-1)) H
abbrev k1:Sk:=[(0,.v),(1,.v),(7,J),(8,J)]
def B3 (P:PT) (a:Y k1):Y k1:=fun b c d e H=>
  a b c d (i64.wrap (e+1)) H
abbrev k2:Sk:=[(5,J)]
def B4 (b:Y k1):Y k2:=fun a H=>
  P (I a) H
abbrev k3:Sk:=[(0,.v),(1,.v),(5,J),(7,J),(8,J)]
def B5 (a:Y k1):Y k3:=fun b c d f g H=>
  idxK b d 1 (fun h i=>li H h i (fun j=>callV Tryz.prog T0 c [(I j)] H (fun k e=>asB k (fun l=>pif l (B4 P a d e) (B3 P a b c f g e)))))
def B6 (b:Y k1):Y k1:=fun c d e a H=>
  B5 P b c d a e a H
def B7 (c:Y k1):Y k1:=fun d e a b H=>
  pif (decide ((b:Int)<a)) (B6 P c d e a b H) (B1 P H)
def L2:Y k1:=fun j k l m H=>
  ∃ (I:Y k1) (μ:NTy k1 (AHeap→Nat)),I j k l m H∧∀ a b c d G,I a b c d G→B7 P (fun e f g h i=>I e f g h i∧μ e f g h i<μ a b c d G) a b c d G
abbrev k4:Sk:=[(0,.v),(1,.v)]
def B8:Y k4:=fun a b H=>
  lenK a (fun c=>L2 P a b (c:Int) 0 H)
def B9:Y k4:=fun a b H=>
  B8 P a b H
theorem main:Z Tryz.f190 19 k4 (B9 P) P:=
  s (B8 P) (zBW (s (L2 P) (zBC (l (B7 P) (fun N2=>(zBW (b (cnd 9 (En 19 k1 (B6 P N2)) (En 19 k0 (B1 P)))) (zBW (zBN rfl zBS (zBT (fun _ _ h=>h))) (zBW (zBC (s (B5 P N2) (zBW (b (cnd 16 (En 19 k2 (B4 P N2)) (En 19 k1 (B3 P N2)))) (zBN rfl (e ()) zBS)))) (a N2)))))))) (e ()))
theorem ac (a b:Value) (H:AHeap) (h:B9 P a b H):A 190 [a,b] H P:=
  fn Tryz.func190 (main P) h
end F190
namespace F191
variable (P:PT)
abbrev k0:Sk:=[]
def B1:Y k0:=fun H=>
  P (I (-1)) H
abbrev k1:Sk:=[(0,.v),(1,J),(7,J),(8,J)]
def B3 (P:PT) (a:Y k1):Y k1:=fun b c d e H=>
  a b c d (i64.wrap (e+1)) H
abbrev k2:Sk:=[(5,J)]
def B4 (b:Y k1):Y k2:=fun a H=>
  P (I a) H
abbrev k3:Sk:=[(0,.v),(1,J),(5,J),(7,J),(8,J)]
def B5 (a:Y k1):Y k3:=fun b c d e f H=>
  idxK b d 1 (fun g h=>li H g h (fun i=>pif ((c:Int)==i) (B4 P a d H) (B3 P a b c e f H)))
def B6 (b:Y k1):Y k1:=fun c d e a H=>
  B5 P b c d a e a H
def B7 (c:Y k1):Y k1:=fun d e a b H=>
  pif (decide ((b:Int)<a)) (B6 P c d e a b H) (B1 P H)
def L2:Y k1:=fun j k l m H=>
  ∃ (I:Y k1) (μ:NTy k1 (AHeap→Nat)),I j k l m H∧∀ a b c d G,I a b c d G→B7 P (fun e f g h i=>I e f g h i∧μ e f g h i<μ a b c d G) a b c d G
abbrev k4:Sk:=[(0,.v),(1,J)]
def B8:Y k4:=fun a b H=>
  lenK a (fun c=>L2 P a b (c:Int) 0 H)
def B9:Y k4:=fun a b H=>
  B8 P a b H
theorem main:Z Tryz.f191 19 k4 (B9 P) P:=
  s (B8 P) (zBW (s (L2 P) (zBC (l (B7 P) (fun N2=>(zBW (b (cnd 9 (En 19 k1 (B6 P N2)) (En 19 k0 (B1 P)))) (zBW (zBN rfl zBS (zBT (fun _ _ h=>h))) (zBW (zBC (s (B5 P N2) (zBW (b (cnd 16 (En 19 k2 (B4 P N2)) (En 19 k1 (B3 P N2)))) (zBN rfl (e ()) zBS)))) (a N2)))))))) (e ()))
theorem ac (a:Value) (b:Int) (H:AHeap) (h:B9 P a b H):A 191 [a,(I b)] H P:=
  fn Tryz.func191 (main P) h
end F191
namespace F192
variable (P:PT)
abbrev k0:Sk:=[(3,.v)]
def B1:Y k0:=fun a H=>
  P a H
abbrev k1:Sk:=[(0,.v),(3,.v),(4,J)]
def B3 (P:PT) (a:Y k1):Y k1:=fun b c d H=>
  a b c (i64.wrap (d+1)) H
abbrev k2:Sk:=[(0,.v),(3,.v),(4,J),(5,.x),(6,J)]
def B4 (c:Y k1):Y k2:=fun d a e b f H=>
  li H b 0 (fun g=>li H b 1 (fun h=>idxK a f 2 (fun i j=>stK H i j [(I g),(I h)] (fun k=>B3 P c d a e k))))
def B6 (P:PT) (g:Y k1) (a:Y k2):Y k2:=fun b c d e f H=>
  a b c d e (i64.wrap (f-1)) H
def B7 (e:Y k1) (f:Y k2):Y k2:=fun g a h i b H=>
  idxK a (i64.wrap (b-1)) 2 (fun c d=>li H c d (fun j=>li H c (d+1) (fun k=>idxK a b 2 (fun l m=>stK H l m [(I j),(I k)] (fun n=>B6 P e f g a h i b n)))))
def B8 (d:Y k1) (j:Y k2):Y k2:=fun e c f a b H=>
  pif (decide ((b:Int)>0)) (li H a 0 (fun k=>li H a 1 (fun l=>idxK c (i64.wrap (b-1)) 2 (fun g h=>li H g h (fun m=>li H g (h+1) (fun n=>A 129 [(agg ⟨[(I k),(I l)]⟩),(agg ⟨[(I m),(I n)]⟩)] H (fun o i=>asB o (fun p=>pif p (B7 P d j e c f a b i) (B4 P d e c f a b i))))))))) (B4 P d e c f a b H)
def L5 (l:Y k1):Y k2:=fun m n o p q H=>
  ∃ (I:Y k2) (μ:NTy k2 (AHeap→Nat)),I m n o p q H∧∀ a b c d e G,I a b c d e G→B8 P l (fun f g h i j k=>I f g h i j k∧μ f g h i j k<μ a b c d e G) a b c d e G
def B9 (b:Y k1):Y k2:=fun c d e a f H=>
  li H a 0 (fun g=>li H a 1 (fun h=>newK H [(I g),(I h)] 66 (fun i j=>apK T0 66 j d (slice (some ⟨i,0,none⟩) 1 (1+1)) (fun k l=>L5 P b c k e a f l))))
def B10 (n:Y k1):Y k1:=fun a j b H=>
  idxK a b 2 (fun o p=>li H o p (fun k=>idxK a b 2 (fun q r=>li H q (r+1) (fun l=>idxK a b 2 (fun s t=>li H s t (fun m=>idxK a b 2 (fun e f=>li H e (f+1) (fun c=>lenK j (fun g=>newK H [(I 0),(I 0)] 66 (fun d h=>stK h d 0 [(I (if l<k then l else k)),(I (if c>m then c else m))] (fun i=>B9 P n a j b d (g:Int) i)))))))))))
def B11 (d:Y k1):Y k1:=fun a b c H=>
  lenK a (fun e=>pif (decide ((c:Int)<(e:Int))) (B10 P d a b c H) (B1 P b H))
def L2:Y k1:=fun h i j H=>
  ∃ (I:Y k1) (μ:NTy k1 (AHeap→Nat)),I h i j H∧∀ a b c G,I a b c G→B11 P (fun d e f g=>I d e f g∧μ d e f g<μ a b c G) a b c G
abbrev k3:Sk:=[(0,.v),(3,.v)]
def B12:Y k3:=fun a b H=>
  L2 P a b 0 H
abbrev k4:Sk:=[(0,.v)]
def B13:Y k4:=fun a H=>
  newK H [] 66 (fun b c=>B12 P a (slice (some ⟨b,0,none⟩) 0 (0+1)) c)
def B14:Y k4:=fun a H=>
  B13 P a H
theorem main:Z Tryz.f192 69 k4 (B14 P) P:=
  s (B13 P) (s (B12 P) (zBW (s (L2 P) (zBC (l (B11 P) (fun N2=>(zBW (zBW (b (cnd 11 (En 69 k1 (B10 P N2)) (En 69 k0 (B1 P)))) (zBN rfl zBS (zBT (fun _ _ h=>h)))) (zBW (zBC (zBW (d (tf 28) (En 69 k2 (B9 P N2))) (s (L5 P N2) (zBW (zBC (l (B8 P N2) (fun N5=>(zBW (zBW (d (tf 11) (cnd 53 (En 69 k2 (B7 P N2 N5)) (En 69 k2 (B4 P N2)))) (zBN rfl zBS (zBT (fun _ _ h=>h)))) (zBC (s (B6 P N2 N5) (a N5))))))) (a (B3 P N2)))))) (a N2))))))) (e ())))
theorem ac (a:Value) (H:AHeap) (h:B14 P a H):A 192 [a] H P:=
  fn Tryz.func192 (main P) h
end F192
namespace F193
variable (P:PT)
abbrev k0:Sk:=[(0,J)]
def B1:Y k0:=fun a H=>
  A 91 [(I a),(I 2),(I 20)] H (fun c b=>asB c (fun d=>pif d (P (bool ((Int.tmod a 2:Int)==0)) b) (P (bool false) b)))
def B2:Y k0:=fun a H=>
  B1 P a H
theorem main:Z Tryz.f193 10 k0 (B2 P) P:=
  s (B1 P) (e ())
theorem ac (a:Int) (H:AHeap) (h:B2 P a H):A 193 [(I a)] H P:=
  fn Tryz.func193 (main P) h
end F193
namespace F194
variable (P:PT)
abbrev k0:Sk:=[(1,.v),(2,.x)]
def B1:Y k0:=fun j b H=>
  li H b 0 (fun k=>asP j (fun l m=>li H l m (fun n=>A 91 [(I k),(I 0),(I (i64.wrap (n-1)))] H (fun o c=>asB o (fun p=>pif p (li c b 1 (fun q=>asP j (fun r d=>li c r d (fun e=>A 91 [(I q),(I 0),(I (i64.wrap (e-1)))] c (fun f a=>asB f (fun g=>pif g (li a b 0 (fun h=>li a b 1 (fun i=>P (bool ((h:Int) != i)) a))) (P (bool false) a))))))) (P (bool false) c))))))
abbrev k1:Sk:=[(0,.g [.i,.i]),(1,.v)]
def B2:Y k1:=fun a b c H=>
  newK H [(I a),(I b)] 66 (fun d e=>B1 P c d e)
theorem main:Z Tryz.f194 23 k1 (B2 P) P:=
  s (B1 P) (e ())
theorem ac (a b:Int) (c:Value) (H:AHeap) (h:B2 P a b c H):A 194 [(agg ⟨[(I a),(I b)]⟩),c] H P:=
  fn Tryz.func194 (main P) h
end F194
namespace F195
variable (P:PT)
abbrev k0:Sk:=[(0,.v),(1,.v)]
def B1:Y k0:=fun a b H=>
  A 208 [a,b] H (fun c d=>asI .i64 c (fun e=>P (bool (decide ((e:Int)≥0))) d))
def B2:Y k0:=fun a b H=>
  B1 P a b H
theorem main:Z Tryz.f195 9 k0 (B2 P) P:=
  s (B1 P) (e ())
theorem ac (a b:Value) (H:AHeap) (h:B2 P a b H):A 195 [a,b] H P:=
  fn Tryz.func195 (main P) h
end F195
namespace F196
variable (P:PT)
abbrev k0:Sk:=[(1,.v),(2,.x)]
def B1:Y k0:=fun b a H=>
  asP b (fun c d=>ld1 H c d (fun e=>li H a 0 (fun f=>li H a 1 (fun g=>callV Tryz.prog T0 e [(agg ⟨[(I f),(I g)]⟩)] H (fun h i=>asB h (fun j=>P (bool (!j)) i))))))
abbrev k1:Sk:=[(0,.g [.i,.i]),(1,.v)]
def B2:Y k1:=fun a b c H=>
  newK H [(I a),(I b)] 66 (fun d e=>B1 P c d e)
theorem main:Z Tryz.f196 8 k1 (B2 P) P:=
  s (B1 P) (e ())
theorem ac (a b:Int) (c:Value) (H:AHeap) (h:B2 P a b c H):A 196 [(agg ⟨[(I a),(I b)]⟩),c] H P:=
  fn Tryz.func196 (main P) h
end F196
namespace F197
variable (P:PT)
abbrev k0:Sk:=[(0,J)]
def B1:Y k0:=fun a H=>
  P (bool ((a:Int)==3)) H
def B2:Y k0:=fun a H=>
  B1 P a H
theorem main:Z Tryz.f197 5 k0 (B2 P) P:=
  s (B1 P) (e ())
theorem ac (a:Int) (H:AHeap) (h:B2 P a H):A 197 [(I a)] H P:=
  fn Tryz.func197 (main P) h
end F197
namespace F204
variable (P:PT)
abbrev k0:Sk:=[(0,.i .u64),(1,.i .u64),(4,.i .u64)]
def B1:Y k0:=fun a b c H=>
  P (tuple ⟨[(int .u64 c),(int .u64 (u64.wrap (a*b)))]⟩) H
abbrev k1:Sk:=[(0,.i .u64),(1,.i .u64),(7,.i .u64),(9,.i .u64),(12,.i .u64),(13,.i .u64)]
def B2:Y k1:=fun c d e f a b H=>
  ((0:Int)≤32)∧(B1 P c d (u64.wrap ((u64.wrap ((u64.wrap (e*f))+b))+(Int.fdiv a (2^(min (Int.toNat 32) 64))))) H)
abbrev k2:Sk:=[(0,.i .u64),(1,.i .u64),(6,.i .u64),(7,.i .u64),(9,.i .u64),(12,.i .u64),(13,.i .u64)]
def B3:Y k2:=fun d e f g c a b H=>
  B2 P d e g c (u64.wrap (a+(u64.wrap (f*c)))) b H
abbrev k3:Sk:=[(0,.i .u64),(1,.i .u64),(6,.i .u64),(7,.i .u64),(9,.i .u64),(11,.i .u64),(12,.i .u64)]
def B4:Y k3:=fun c d e f g a b H=>
  ((0:Int)≤32)∧(B3 P c d e f g b (Int.fdiv a (2^(min (Int.toNat 32) 64))) H)
abbrev k4:Sk:=[(0,.i .u64),(1,.i .u64),(6,.i .u64),(7,.i .u64),(9,.i .u64),(11,.i .u64)]
def B5:Y k4:=fun b c d e f a H=>
  B4 P b c d e f a (u64.wrap (BitVec.ofInt 64 a&&&BitVec.ofInt 64 4294967295).toNat) H
abbrev k5:Sk:=[(0,.i .u64),(1,.i .u64),(6,.i .u64),(7,.i .u64),(8,.i .u64),(9,.i .u64),(10,.i .u64)]
def B6:Y k5:=fun c d e b f g a H=>
  ((0:Int)≤32)∧(B5 P c d e b g (u64.wrap ((u64.wrap (b*f))+(Int.fdiv a (2^(min (Int.toNat 32) 64))))) H)
abbrev k6:Sk:=[(0,.i .u64),(1,.i .u64),(6,.i .u64),(7,.i .u64),(8,.i .u64),(9,.i .u64)]
def B7:Y k6:=fun c d a e b f H=>
  B6 P c d a e b f (u64.wrap (a*b)) H
abbrev k7:Sk:=[(0,.i .u64),(1,.i .u64),(6,.i .u64),(7,.i .u64),(8,.i .u64)]
def B8:Y k7:=fun b a c d e H=>
  ((0:Int)≤32)∧(B7 P b a c d e (Int.fdiv a (2^(min (Int.toNat 32) 64))) H)
abbrev k8:Sk:=[(0,.i .u64),(1,.i .u64),(6,.i .u64),(7,.i .u64)]
def B9:Y k8:=fun b a c d H=>
  B8 P b a c d (u64.wrap (BitVec.ofInt 64 a&&&BitVec.ofInt 64 4294967295).toNat) H
abbrev k9:Sk:=[(0,.i .u64),(1,.i .u64),(6,.i .u64)]
def B10:Y k9:=fun a b c H=>
  ((0:Int)≤32)∧(B9 P a b c (Int.fdiv a (2^(min (Int.toNat 32) 64))) H)
abbrev k10:Sk:=[(0,.i .u64),(1,.i .u64)]
def B11:Y k10:=fun a b H=>
  B10 P a b (u64.wrap (BitVec.ofInt 64 a&&&BitVec.ofInt 64 4294967295).toNat) H
def B12:Y k10:=fun a b H=>
  B11 P a b H
theorem main:Z Tryz.f204 51 k10 (B12 P) P:=
  s (B11 P) (s (B10 P) (s (B9 P) (s (B8 P) (s (B7 P) (s (B6 P) (s (B5 P) (s (B4 P) (s (B3 P) (s (B2 P) (s (B1 P) (e ())))))))))))
theorem ac (a b:Int) (H:AHeap) (h:B12 P a b H):A 204 [(int .u64 a),(int .u64 b)] H P:=
  fn Tryz.func204 (main P) h
end F204
namespace F205
variable (P:PT)
abbrev k0:Sk:=[(2,J)]
def B1:Y k0:=fun a H=>
  P (bool ((a:Int)==0)) H
abbrev k1:Sk:=[(1,J),(2,J)]
def B2:Y k1:=fun a b H=>
  nzK a (P (bool ((Int.tmod b a:Int)==0)) H)
abbrev k2:Sk:=[(0,J),(1,J),(2,J)]
def B3:Y k2:=fun b c a H=>
  pif ((b:Int)==0) (B2 P c a H) (B1 P a H)
def B4:Y k2:=fun a b c H=>
  B3 P a b c H
theorem main:Z Tryz.f205 15 k2 (B4 P) P:=
  s (B3 P) (zBW (zBW (b (cnd 8 (En 15 k1 (B2 P)) (En 15 k0 (B1 P)))) (zBN rfl (e ()) zBS)) (e ()))
theorem ac (a b c:Int) (H:AHeap) (h:B4 P a b c H):A 205 [(I a),(I b),(I c)] H P:=
  fn Tryz.func205 (main P) h
end F205
namespace F206
variable (P:PT)
abbrev k0:Sk:=[]
def B1:Y k0:=fun H=>
  P (I (-1)) H
abbrev k1:Sk:=[(0,.v),(1,.v),(7,J),(8,J)]
def B3 (P:PT) (a:Y k1):Y k1:=fun b c d e H=>
  a b c d (i64.wrap (e+1)) H
abbrev k2:Sk:=[(5,J)]
def B4 (b:Y k1):Y k2:=fun a H=>
  P (I a) H
abbrev k3:Sk:=[(0,.v),(1,.v),(5,J),(7,J),(8,J)]
def B5 (a:Y k1):Y k3:=fun b c d f g H=>
  idxK b d 1 (fun h i=>ld1 H h i (fun j=>callV Tryz.prog T0 c [j] H (fun k e=>asB k (fun l=>pif l (B4 P a d e) (B3 P a b c f g e)))))
def B6 (b:Y k1):Y k1:=fun c d e a H=>
  B5 P b c d a e a H
def B7 (c:Y k1):Y k1:=fun d e a b H=>
  pif (decide ((b:Int)<a)) (B6 P c d e a b H) (B1 P H)
def L2:Y k1:=fun j k l m H=>
  ∃ (I:Y k1) (μ:NTy k1 (AHeap→Nat)),I j k l m H∧∀ a b c d G,I a b c d G→B7 P (fun e f g h i=>I e f g h i∧μ e f g h i<μ a b c d G) a b c d G
abbrev k4:Sk:=[(0,.v),(1,.v)]
def B8:Y k4:=fun a b H=>
  lenK a (fun c=>L2 P a b (c:Int) 0 H)
def B9:Y k4:=fun a b H=>
  B8 P a b H
theorem main:Z Tryz.f206 19 k4 (B9 P) P:=
  s (B8 P) (zBW (s (L2 P) (zBC (l (B7 P) (fun N2=>(zBW (b (cnd 9 (En 19 k1 (B6 P N2)) (En 19 k0 (B1 P)))) (zBW (zBN rfl zBS (zBT (fun _ _ h=>h))) (zBW (zBC (s (B5 P N2) (zBW (b (cnd 16 (En 19 k2 (B4 P N2)) (En 19 k1 (B3 P N2)))) (zBN rfl (e ()) zBS)))) (a N2)))))))) (e ()))
theorem ac (a b:Value) (H:AHeap) (h:B9 P a b H):A 206 [a,b] H P:=
  fn Tryz.func206 (main P) h
end F206
namespace F207
variable (P:PT)
abbrev k0:Sk:=[]
def B1:Y k0:=fun H=>
  P (I (-1)) H
abbrev k1:Sk:=[(0,.v),(1,.v),(7,J),(8,J)]
def B3 (P:PT) (a:Y k1):Y k1:=fun b c d e H=>
  a b c d (i64.wrap (e+1)) H
abbrev k2:Sk:=[(5,J)]
def B4 (b:Y k1):Y k2:=fun a H=>
  P (I a) H
abbrev k3:Sk:=[(0,.v),(1,.v),(5,J),(7,J),(8,J)]
def B5 (a:Y k1):Y k3:=fun b c d f g H=>
  idxK b d 1 (fun h i=>li H h i (fun j=>callV Tryz.prog T0 c [(I j)] H (fun k e=>asB k (fun l=>pif l (B4 P a d e) (B3 P a b c f g e)))))
def B6 (b:Y k1):Y k1:=fun c d e a H=>
  B5 P b c d a e a H
def B7 (c:Y k1):Y k1:=fun d e a b H=>
  pif (decide ((b:Int)<a)) (B6 P c d e a b H) (B1 P H)
def L2:Y k1:=fun j k l m H=>
  ∃ (I:Y k1) (μ:NTy k1 (AHeap→Nat)),I j k l m H∧∀ a b c d G,I a b c d G→B7 P (fun e f g h i=>I e f g h i∧μ e f g h i<μ a b c d G) a b c d G
abbrev k4:Sk:=[(0,.v),(1,.v)]
def B8:Y k4:=fun a b H=>
  lenK a (fun c=>L2 P a b (c:Int) 0 H)
def B9:Y k4:=fun a b H=>
  B8 P a b H
theorem main:Z Tryz.f207 19 k4 (B9 P) P:=
  s (B8 P) (zBW (s (L2 P) (zBC (l (B7 P) (fun N2=>(zBW (b (cnd 9 (En 19 k1 (B6 P N2)) (En 19 k0 (B1 P)))) (zBW (zBN rfl zBS (zBT (fun _ _ h=>h))) (zBW (zBC (s (B5 P N2) (zBW (b (cnd 16 (En 19 k2 (B4 P N2)) (En 19 k1 (B3 P N2)))) (zBN rfl (e ()) zBS)))) (a N2)))))))) (e ()))
theorem ac (a b:Value) (H:AHeap) (h:B9 P a b H):A 207 [a,b] H P:=
  fn Tryz.func207 (main P) h
end F207
namespace F208
variable (P:PT)
abbrev k0:Sk:=[]
def B1:Y k0:=fun H=>
  P (I (-1)) H
abbrev k1:Sk:=[(0,.v),(1,.v),(7,J),(8,J)]
def B3 (P:PT) (a:Y k1):Y k1:=fun b c d e H=>
  a b c d (i64.wrap (e+1)) H
abbrev k2:Sk:=[(5,J)]
def B4 (b:Y k1):Y k2:=fun a H=>
  P (I a) H
abbrev k3:Sk:=[(0,.v),(1,.v),(5,J),(7,J),(8,J)]
def B5 (a:Y k1):Y k3:=fun b c d h i H=>
  idxK b d 2 (fun e f=>li H e f (fun j=>li H e (f+1) (fun k=>callV Tryz.prog T0 c [(agg ⟨[(I j),(I k)]⟩)] H (fun l g=>asB l (fun m=>pif m (B4 P a d g) (B3 P a b c h i g))))))
def B6 (b:Y k1):Y k1:=fun c d e a H=>
  B5 P b c d a e a H
def B7 (c:Y k1):Y k1:=fun d e a b H=>
  pif (decide ((b:Int)<a)) (B6 P c d e a b H) (B1 P H)
def L2:Y k1:=fun j k l m H=>
  ∃ (I:Y k1) (μ:NTy k1 (AHeap→Nat)),I j k l m H∧∀ a b c d G,I a b c d G→B7 P (fun e f g h i=>I e f g h i∧μ e f g h i<μ a b c d G) a b c d G
abbrev k4:Sk:=[(0,.v),(1,.v)]
def B8:Y k4:=fun a b H=>
  lenK a (fun c=>L2 P a b (c:Int) 0 H)
def B9:Y k4:=fun a b H=>
  B8 P a b H
theorem main:Z Tryz.f208 19 k4 (B9 P) P:=
  s (B8 P) (zBW (s (L2 P) (zBC (l (B7 P) (fun N2=>(zBW (b (cnd 9 (En 19 k1 (B6 P N2)) (En 19 k0 (B1 P)))) (zBW (zBN rfl zBS (zBT (fun _ _ h=>h))) (zBW (zBC (s (B5 P N2) (zBW (b (cnd 16 (En 19 k2 (B4 P N2)) (En 19 k1 (B3 P N2)))) (zBN rfl (e ()) zBS)))) (a N2)))))))) (e ()))
theorem ac (a b:Value) (H:AHeap) (h:B9 P a b H):A 208 [a,b] H P:=
  fn Tryz.func208 (main P) h
end F208
end
end Go.Proofs
