import Derived.Test.YtngacbdogjmpaaaGreatX36S
set_option linter.unusedVariables false
set_option maxRecDepth 100000
namespace Go.Proofs
open Go.Abs
open Value IntKind
noncomputable section
namespace F101
variable (P:PT)
def ret (P:PT):EP:=retE T0 18 Tryz.f101 P
abbrev k0:Sk:=[(1,.v),(2,.x)]
def B1:Y k0:=fun g b H=>
  li H b 0 (fun h=>ld1 H b 1 (fun i=>li H b 0 (fun j=>ld1 H b 1 (fun k=>A 55 [i] H (fun l c=>asI .i64 l (fun m=>(AHeap.le H c)∧(A 97 [(agg ⟨[(I j),k]⟩),g] c (fun n d=>(AHeap.le c d)∧(A 156 [n] d (fun e a=>asI .i64 e (fun f=>(AHeap.le d a)∧(P (I (i64.wrap (Int.tdiv (i64.wrap ((i64.wrap ((i64.wrap (2-h))+m))-f)) 2))) a))))))))))))
abbrev k1:Sk:=[(0,.g [.i,.v]),(1,.v)]
def B2:Y k1:=fun a b c H=>
  newK H [(I a),b] 26 (fun d e=>B1 P c d e)
theorem main:Z Tryz.f101 18 k1 (B2 P) P:=
  s (B1 P) (zBW (d [(0,false),(1,false),(2,false),(3,false),(4,false),(7,false),(8,false),(5,true),(6,false),(9,true),(10,true),(11,false),(12,false),(13,false)] (ret P)) zBV)
theorem ac (a:Int) (b c:Value) (H:AHeap) (h:B2 P a b c H):A 101 [(agg ⟨[(I a),b]⟩),c] H P:=
  fn Tryz.func101 (main P) h
end F101
namespace F102
variable (P:PT)
abbrev k0:Sk:=[(1,.x)]
def B1:Y k0:=fun a H=>
  li H a 0 (fun b=>ld1 H a 1 (fun c=>A 157 [(I b),c] H (fun d e=>asI .i64 d (fun f=>P (bool ((f:Int)==1)) e))))
abbrev k1:Sk:=[(0,.g [.i,.v])]
def B2:Y k1:=fun a b H=>
  newK H [(I a),b] 26 (fun c d=>B1 P c d)
theorem main:Z Tryz.f102 9 k1 (B2 P) P:=
  s (B1 P) (e ())
theorem ac (a:Int) (b:Value) (H:AHeap) (h:B2 P a b H):A 102 [(agg ⟨[(I a),b]⟩)] H P:=
  fn Tryz.func102 (main P) h
end F102
namespace F103
variable (P:PT)
def ret (P:PT):EP:=retE T0 18 Tryz.f103 P
abbrev k0:Sk:=[(1,.v),(2,.x)]
def B1:Y k0:=fun c a H=>
  li H a 0 (fun d=>ld1 H a 1 (fun e=>lenK e (fun f=>li H a 0 (fun g=>ld1 H a 1 (fun h=>A 99 [(agg ⟨[(I g),h]⟩),c] H (fun i b=>(AHeap.le H b)∧(lenK i (fun j=>P (I (i64.wrap (Int.tdiv (i64.wrap ((i64.wrap ((i64.wrap (2-d))+(f:Int)))-(j:Int))) 2))) b))))))))
abbrev k1:Sk:=[(0,.g [.i,.v]),(1,.v)]
def B2:Y k1:=fun a b c H=>
  newK H [(I a),b] 26 (fun d e=>B1 P c d e)
theorem main:Z Tryz.f103 18 k1 (B2 P) P:=
  s (B1 P) (zBW (d [(0,false),(1,false),(2,false),(3,false),(4,false),(5,false),(6,false),(7,false),(8,false),(9,true),(10,false),(11,false),(12,false),(13,false)] (ret P)) zBV)
theorem ac (a:Int) (b c:Value) (H:AHeap) (h:B2 P a b c H):A 103 [(agg ⟨[(I a),b]⟩),c] H P:=
  fn Tryz.func103 (main P) h
end F103
namespace F104
variable (P:PT)
abbrev k0:Sk:=[(1,J),(4,.x),(12,.v)]
def B1:Y k0:=fun d a b H=>
  A 158 [(I d),b] H (fun e f=>agg2 e (fun g h=>asI .i64 g (fun i=>stK f a 0 [(I i),h] (fun c=>li c a 0 (fun j=>ld1 c a 1 (fun k=>P (agg ⟨[(I j),k]⟩) c))))))
abbrev k1:Sk:=[(1,J),(4,.x),(12,.v),(13,J)]
def B3 (P:PT) (c:Y k1):Y k1:=fun d e a b H=>
  c d e a (i64.wrap (b+1)) H
def B4 (d:Y k1):Y k1:=fun c e b a H=>
  newK H [(I a),(I (i64.wrap (a+(i64.wrap (Int.tdiv c 2)))))] 66 (fun f g=>apK T0 66 g b (slice (some ⟨f,0,none⟩) 1 (1+1)) (fun h i=>B3 P d c e h a i))
def B5 (d:Y k1):Y k1:=fun c e b a H=>
  pif (decide ((a:Int)<(i64.wrap (Int.tdiv c 2)))) (B4 P d c e b a H) (B3 P d c e b a H)
def B6 (d:Y k1):Y k1:=fun b e c a H=>
  nzK b (newK H [(I a),(I (Int.tmod (i64.wrap (a+1)) b))] 66 (fun f g=>apK T0 66 g c (slice (some ⟨f,0,none⟩) 1 (1+1)) (fun h i=>B5 P d b e h a i)))
def B7 (e:Y k1):Y k1:=fun c d a b H=>
  pif (decide ((b:Int)<c)) (B6 P e c d a b H) (B1 P c d a H)
def L2:Y k1:=fun l m e f H=>
  ∃ (I:Y k1) (μ:NTy k1 (AHeap→Nat)),I l m e f H∧∀ g h a b G,I g h a b G→B7 P (fun i j c d k=>I i j c d k∧μ i j c d k<μ g h a b G) g h a b G
def B8:Y k0:=fun b c a H=>
  L2 P b c a 0 H
abbrev k2:Sk:=[(1,J),(4,.x)]
def B9:Y k2:=fun a b H=>
  newK H [] 66 (fun c d=>B8 P a b (slice (some ⟨c,0,none⟩) 0 (0+1)) d)
abbrev k3:Sk:=[(0,.v),(1,J),(4,.x),(5,J)]
def B11 (P:PT) (a:Y k3):Y k3:=fun b c d e H=>
  a b c d (i64.wrap (e+1)) H
abbrev k4:Sk:=[(1,J),(4,.x),(7,.v)]
def B12 (c:Y k3):Y k4:=fun d a e H=>
  A 158 [(I d),e] H (fun f g=>agg2 f (fun h i=>asI .i64 h (fun j=>stK g a 0 [(I j),i] (fun b=>li b a 0 (fun k=>ld1 b a 1 (fun l=>P (agg ⟨[(I k),l]⟩) b))))))
abbrev k5:Sk:=[(0,.v),(1,J),(4,.x),(5,J),(7,.v),(8,.b)]
def B13 (a:Y k3):Y k5:=fun d b c e f g H=>
  pif g (B12 P a b c f H) (B11 P a d b c e H)
abbrev k6:Sk:=[(0,.v),(1,J),(4,.x),(5,J),(6,.v),(7,.v),(8,.b),(9,J)]
def B15 (P:PT) (b:Y k3) (a:Y k6):Y k6:=fun c d e f g h i j H=>
  a c d e f g h i (i64.wrap (j+2)) H
abbrev k7:Sk:=[(0,.v),(1,J),(4,.x),(5,J),(6,.v),(7,.v),(8,.b),(9,J),(10,J),(11,J)]
def B16 (a:Y k3) (b:Y k6):Y k7:=fun e f g h i j l k c d H=>
  pif l (B15 P a b e f g h i j ((c:Int) != d) k H) (B15 P a b e f g h i j false k H)
def B17 (c:Y k3) (d:Y k6):Y k7:=fun e f g h i j k l a b H=>
  newK H [(I a),(I b)] 66 (fun m n=>apK T0 66 n j (slice (some ⟨m,0,none⟩) 1 (1+1)) (fun o p=>B16 P c d e f g h i o k l a b p))
def B18 (a:Y k3) (b:Y k6):Y k6:=fun e f g h c i j d H=>
  idxK c d 1 (fun k l=>li H k l (fun m=>idxK c (i64.wrap (d+1)) 1 (fun n o=>li H n o (fun p=>B17 P a b e f g h c i j d (i64.wrap (Int.tdiv m 3)) (i64.wrap (Int.tdiv p 3)) H))))
def B19 (a:Y k3) (b:Y k6):Y k6:=fun c d e f g h i j H=>
  lenK g (fun k=>pif (decide ((j:Int)<(k:Int))) (B18 P a b c d e f g h i j H) (B13 P a c d e f h i H))
def L14 (a:Y k3):Y k6:=fun s t u v w x y z H=>
  ∃ (I:Y k6) (μ:NTy k6 (AHeap→Nat)),I s t u v w x y z H∧∀ b c d e f g h i G,I b c d e f g h i G→B19 P a (fun j k l m n o p q r=>I j k l m n o p q r∧μ j k l m n o p q r<μ b c d e f g h i G) b c d e f g h i G
abbrev k8:Sk:=[(0,.v),(1,J),(4,.x),(5,J),(6,.v),(7,.v),(8,.b)]
def B20 (a:Y k3):Y k8:=fun b c d e f g h H=>
  L14 P a b c d e f g h 0 H
def B21 (a:Y k3):Y k3:=fun b c d e H=>
  A 117 [b,(I (i64.wrap (3*c)))] H (fun f g=>newK g [] 66 (fun h i=>B20 P a b c d e f (slice (some ⟨h,0,none⟩) 0 (0+1)) true i))
def B22 (a:Y k3):Y k3:=fun e b c d H=>
  pif (decide ((d:Int)<20)) (B21 P a e b c d H) (B9 P b c H)
def L10:Y k3:=fun j k l m H=>
  ∃ (I:Y k3) (μ:NTy k3 (AHeap→Nat)),I j k l m H∧∀ a b c d G,I a b c d G→B22 P (fun e f g h i=>I e f g h i∧μ e f g h i<μ a b c d G) a b c d G
abbrev k9:Sk:=[(0,.v),(1,J),(4,.x)]
def B23:Y k9:=fun a b c H=>
  L10 P a b c 0 H
abbrev k10:Sk:=[(0,.v),(1,J)]
def B24:Y k10:=fun a b H=>
  newK H [(I 0),(slice none 0 0)] 26 (fun c d=>B23 P a b c d)
theorem main:Z Tryz.f104 87 k10 (B24 P) P:=
  s (B23 P) (zBW (s (L10 P) (zBC (l (B22 P) (fun N10=>(zBW (zBW (b (cnd 15 (En 87 k3 (B21 P N10)) (En 87 k2 (B9 P)))) (zBN rfl zBS (zBT (fun _ _ h=>h)))) (zBW (zBC (s (B20 P N10) (zBW (s (L14 P N10) (zBC (l (B19 P N10) (fun N14=>(zBW (zBW (b (cnd 26 (En 87 k6 (B18 P N10 N14)) (En 87 k5 (B13 P N10)))) (zBN rfl zBS (zBT (fun _ _ h=>h)))) (zBW (zBC (zBW (d (tf 13) (En 87 k7 (B17 P N10 N14))) (s (B16 P N10 N14) (a (B15 P N10 N14))))) (a N14))))))) (zBW (b (cnd 52 (En 87 k4 (B12 P N10)) (En 87 k3 (B11 P N10)))) (zBN rfl (e ()) zBS))))) (a N10))))))) (s (B8 P) (zBW (s (L2 P) (zBC (l (B7 P) (fun N2=>(zBW (zBW (b (cnd 59 (En 87 k1 (B6 P N2)) (En 87 k0 (B1 P)))) (zBN rfl zBS (zBT (fun _ _ h=>h)))) (zBW (zBC (s (B5 P N2) (zBW (b (cnd 74 (En 87 k1 (B4 P N2)) (En 87 k1 (B3 P N2)))) (zBN rfl (a (B3 P N2)) zBS)))) (a N2))))))) (e ()))))
theorem ac (a:Value) (b:Int) (H:AHeap) (h:B24 P a b H):A 104 [a,(I b)] H P:=
  fn Tryz.func104 (main P) h
end F104
namespace F105
variable (P:PT)
abbrev k0:Sk:=[]
def B1:Y k0:=fun H=>
  P (I 0) H
def B2:Y k0:=fun H=>
  P (I 5) H
abbrev k1:Sk:=[(1,.x)]
def B3:Y k1:=fun a H=>
  li H a 0 (fun c=>ld1 H a 1 (fun d=>A 100 [(agg ⟨[(I c),d]⟩)] H (fun e b=>asB e (fun f=>pif (!f) (B2 P b) (B1 P b)))))
abbrev k2:Sk:=[(3,J)]
def B4:Y k2:=fun a H=>
  P (I a) H
abbrev k3:Sk:=[(1,.x),(3,J)]
def B5:Y k3:=fun b a H=>
  pif ((a:Int) != 0) (B4 P a H) (B3 P b H)
def B6:Y k1:=fun a H=>
  li H a 0 (fun b=>ld1 H a 1 (fun c=>A 53 [(agg ⟨[(I b),c]⟩),(bool true)] H (fun d e=>asI .i64 d (fun f=>B5 P a f e))))
abbrev k4:Sk:=[(0,.g [.i,.v])]
def B7:Y k4:=fun a b H=>
  newK H [(I a),b] 26 (fun c d=>B6 P c d)
theorem main:Z Tryz.f105 12 k4 (B7 P) P:=
  s (B6 P) (zBW (s (B5 P) (zBW (b (cnd 7 (En 12 k2 (B4 P)) (En 12 k1 (B3 P)))) (zBN rfl (e ()) zBS))) (zBW (zBW (b (cnd 11 (En 12 k0 (B2 P)) (En 12 k0 (B1 P)))) (zBN rfl (e ()) zBS)) (e ())))
theorem ac (a:Int) (b:Value) (H:AHeap) (h:B7 P a b H):A 105 [(agg ⟨[(I a),b]⟩)] H P:=
  fn Tryz.func105 (main P) h
end F105
namespace F106
variable (P:PT)
abbrev k0:Sk:=[(5,.v)]
def B1:Y k0:=fun a H=>
  P a H
abbrev k1:Sk:=[(1,J),(5,.v),(9,.v),(10,J),(11,J)]
def B3 (P:PT) (c:Y k1):Y k1:=fun d e f a b H=>
  c d e f a (i64.wrap (b+1)) H
abbrev k2:Sk:=[(1,J),(5,.v),(6,J),(9,.v),(10,J),(11,J)]
def B4 (c:Y k1):Y k2:=fun d e f g a b H=>
  newK H [(I f)] 2 (fun h i=>apK T0 2 i e (slice (some ⟨h,0,none⟩) 1 (1+1)) (fun j k=>B3 P c d j g a b k))
abbrev k3:Sk:=[(1,J),(5,.v),(6,J),(7,.x),(9,.v),(10,J),(11,J)]
def B5 (d:Y k1):Y k3:=fun c e i f g a b H=>
  li H f 0 (fun j=>li H f 1 (fun k=>A 159 [(agg ⟨[(I j),(I k)]⟩),(I c)] H (fun l h=>asB l (fun m=>pif m (B4 P d c e i g a b h) (B3 P d c e g a b h)))))
def B6 (g:Y k1):Y k1:=fun h i c b a H=>
  idxK c a 2 (fun d e=>li H d e (fun j=>li H d (e+1) (fun k=>newK H [(I 0),(I 0)] 66 (fun f l=>stK l f 0 [(I j),(I k)] (fun m=>B5 P g h i a f c b a m)))))
def B7 (d:Y k1):Y k1:=fun e c f a b H=>
  pif (decide ((b:Int)<a)) (B6 P d e c f a b H) (B1 P c H)
def L2:Y k1:=fun n o p e f H=>
  ∃ (I:Y k1) (μ:NTy k1 (AHeap→Nat)),I n o p e f H∧∀ g h i a b G,I g h i a b G→B7 P (fun j k l c d m=>I j k l c d m∧μ j k l c d m<μ g h i a b G) g h i a b G
abbrev k4:Sk:=[(1,J),(2,.x),(5,.v)]
def B8:Y k4:=fun b c d H=>
  ld1 H c 1 (fun a=>lenK a (fun e=>L2 P b d a (e:Int) 0 H))
abbrev k5:Sk:=[(1,J),(2,.x)]
def B9:Y k5:=fun a b H=>
  B8 P a b (slice none 0 0) H
abbrev k6:Sk:=[(0,.g [.i,.v]),(1,J)]
def B10:Y k6:=fun a b c H=>
  newK H [(I a),b] 26 (fun d e=>B9 P c d e)
theorem main:Z Tryz.f106 25 k6 (B10 P) P:=
  s (B9 P) (s (B8 P) (zBW (s (L2 P) (zBC (l (B7 P) (fun N2=>(zBW (b (cnd 12 (En 25 k1 (B6 P N2)) (En 25 k0 (B1 P)))) (zBW (zBN rfl zBS (zBT (fun _ _ h=>h))) (zBW (zBC (s (B5 P N2) (zBW (b (cnd 18 (En 25 k2 (B4 P N2)) (En 25 k1 (B3 P N2)))) (zBN rfl (a (B3 P N2)) zBS)))) (a N2)))))))) (e ())))
theorem ac (a:Int) (b:Value) (c:Int) (H:AHeap) (h:B10 P a b c H):A 106 [(agg ⟨[(I a),b]⟩),(I c)] H P:=
  fn Tryz.func106 (main P) h
end F106
namespace F107
variable (P:PT)
abbrev k0:Sk:=[(0,.i .u64)]
def B1:Y k0:=fun a H=>
  A 160 [(int .u64 a)] H (fun b c=>asI .i64 b (fun d=>P (I d) c))
def B2:Y k0:=fun a H=>
  B1 P a H
theorem main:Z Tryz.f107 5 k0 (B2 P) P:=
  s (B1 P) (e ())
theorem ac (a:Int) (H:AHeap) (h:B2 P a H):A 107 [(int .u64 a)] H P:=
  fn Tryz.func107 (main P) h
end F107
namespace F108
variable (P:PT)
abbrev k0:Sk:=[(0,.v),(1,.v)]
def B1:Y k0:=fun a b H=>
  A 121 [a,b] H (fun c d=>asI .i64 c (fun e=>P (bool (decide ((e:Int)≥0))) d))
def B2:Y k0:=fun a b H=>
  B1 P a b H
theorem main:Z Tryz.f108 9 k0 (B2 P) P:=
  s (B1 P) (e ())
theorem ac (a b:Value) (H:AHeap) (h:B2 P a b H):A 108 [a,b] H P:=
  fn Tryz.func108 (main P) h
end F108
namespace F109
variable (P:PT)
abbrev k0:Sk:=[(0,.i .u64),(1,.v)]
def B1:Y k0:=fun a b H=>
  asP b (fun c d=>li H c d (fun e=>A 110 [(int .u64 a),(I e)] H (fun f g=>asB f (fun h=>P (bool h) g))))
def B2:Y k0:=fun a b H=>
  B1 P a b H
theorem main:Z Tryz.f109 7 k0 (B2 P) P:=
  s (B1 P) (e ())
theorem ac (a:Int) (b:Value) (H:AHeap) (h:B2 P a b H):A 109 [(int .u64 a),b] H P:=
  fn Tryz.func109 (main P) h
end F109
namespace F110
variable (P:PT)
abbrev k0:Sk:=[(0,.i .u64),(1,J)]
def B1:Y k0:=fun b a H=>
  ((0:Int)≤a)∧(P (bool ((u64.wrap (BitVec.ofInt 64 (Int.fdiv b (2^(min (Int.toNat a) 64)))&&&BitVec.ofInt 64 1).toNat:Int)==1)) H)
def B2:Y k0:=fun a b H=>
  B1 P a b H
theorem main:Z Tryz.f110 10 k0 (B2 P) P:=
  s (B1 P) (e ())
theorem ac (a b:Int) (H:AHeap) (h:B2 P a b H):A 110 [(int .u64 a),(I b)] H P:=
  fn Tryz.func110 (main P) h
end F110
namespace F111
variable (P:PT)
abbrev k0:Sk:=[]
def B1:Y k0:=fun H=>
  P (I 0) H
abbrev k1:Sk:=[(0,.v),(1,J),(5,J)]
def B3 (P:PT) (a:Y k1):Y k1:=fun b c d H=>
  a b c (i64.wrap (d+1)) H
def B4 (a:Y k1):Y k0:=fun H=>
  P (I 2) H
def B5 (d:Y k1):Y k1:=fun c e a H=>
  idxK c a 1 (fun i j=>li H i j (fun k=>A 81 [(I k),(I 0),(I (i64.wrap (e-1)))] H (fun l b=>asB l (fun m=>pif (!m) (B4 P d b) (pif (decide ((a:Int)>0)) (idxK c a 1 (fun n o=>li b n o (fun p=>idxK c (i64.wrap (a-1)) 1 (fun f g=>li b f g (fun h=>pif (decide ((p:Int)≤h)) (B4 P d b) (B3 P d c e a b)))))) (B3 P d c e a b))))))
def B6 (c:Y k1):Y k1:=fun a d b H=>
  lenK a (fun e=>pif (decide ((b:Int)<(e:Int))) (B5 P c a d b H) (B1 P H))
def L2:Y k1:=fun h i j H=>
  ∃ (I:Y k1) (μ:NTy k1 (AHeap→Nat)),I h i j H∧∀ a b c G,I a b c G→B6 P (fun d e f g=>I d e f g∧μ d e f g<μ a b c G) a b c G
abbrev k2:Sk:=[(0,.v),(1,J)]
def B7:Y k2:=fun a b H=>
  L2 P a b 0 H
def B8:Y k2:=fun a b H=>
  B7 P a b H
theorem main:Z Tryz.f111 36 k2 (B8 P) P:=
  s (B7 P) (zBW (s (L2 P) (zBC (l (B6 P) (fun N2=>(zBW (zBW (b (cnd 9 (En 36 k1 (B5 P N2)) (En 36 k0 (B1 P)))) (zBN rfl zBS (zBT (fun _ _ h=>h)))) (zBW (zBC (zBW (d (tf 24) (cnd 35 (En 36 k0 (B4 P N2)) (En 36 k1 (B3 P N2)))) (zBN rfl (e ()) zBS))) (a N2))))))) (e ()))
theorem ac (a:Value) (b:Int) (H:AHeap) (h:B8 P a b H):A 111 [a,(I b)] H P:=
  fn Tryz.func111 (main P) h
end F111
namespace F112
variable (P:PT)
abbrev k0:Sk:=[(5,.v)]
def B1:Y k0:=fun a H=>
  P a H
abbrev k1:Sk:=[(1,.v),(5,.v),(7,.b)]
abbrev k2:Sk:=[(1,.v),(5,.v),(7,.b),(8,J)]
def B4 (P:PT) (f:Y k1) (a:Y k2):Y k2:=fun b c d e H=>
  a b c d (i64.wrap (e+1)) H
abbrev k3:Sk:=[(1,.v),(5,.v),(8,J)]
def B5 (a:Y k1) (b:Y k2):Y k3:=fun c d e H=>
  B4 P a b c d true e H
abbrev k4:Sk:=[(1,.v),(5,.v),(8,J),(9,J),(10,J)]
def B6 (f:Y k1) (g:Y k2):Y k4:=fun b c d e a H=>
  idxK b d 2 (fun h i=>li H h (i+1) (fun j=>idxK c j 1 (fun k l=>stK H k l [(I (if a<e then a else e))] (fun m=>B5 P f g b c d m))))
def B7 (f:Y k1) (g:Y k2):Y k4:=fun c d e b a H=>
  idxK c e 2 (fun h i=>li H h i (fun j=>idxK d j 1 (fun k l=>stK H k l [(I (if a<b then a else b))] (fun m=>B6 P f g c d e b a m))))
abbrev k5:Sk:=[(1,.v),(5,.v),(7,.b),(8,J),(9,J),(10,J)]
def B8 (b:Y k1) (c:Y k2):Y k5:=fun d e h f g a H=>
  pif ((g:Int) != a) (B7 P b c d e f g a H) (B4 P b c d e h f H)
def B9 (g:Y k1) (h:Y k2):Y k2:=fun a b i c H=>
  idxK a c 2 (fun j k=>li H j k (fun l=>idxK b l 1 (fun m n=>li H m n (fun o=>idxK a c 2 (fun p q=>li H p (q+1) (fun r=>idxK b r 1 (fun d e=>li H d e (fun f=>B8 P g h a b i c o f H))))))))
def B10 (b:Y k1) (f:Y k2):Y k2:=fun a c d e H=>
  lenK a (fun g=>pif (decide ((e:Int)<(g:Int))) (B9 P b f a c d e H) (b a c d H))
def L3 (j:Y k1):Y k2:=fun k l m n H=>
  ∃ (I:Y k2) (μ:NTy k2 (AHeap→Nat)),I k l m n H∧∀ a b c d G,I a b c d G→B10 P j (fun e f g h i=>I e f g h i∧μ e f g h i<μ a b c d G) a b c d G
def B11 (a:Y k1):Y k1:=fun b c d H=>
  L3 P a b c d 0 H
abbrev k6:Sk:=[(1,.v),(5,.v)]
def B12 (a:Y k1):Y k6:=fun b c H=>
  B11 P a b c false H
def B13 (b:Y k1):Y k1:=fun c a d H=>
  pif d (B12 P b c a H) (B1 P a H)
def L2:Y k1:=fun h i j H=>
  ∃ (I:Y k1) (μ:NTy k1 (AHeap→Nat)),I h i j H∧∀ a b c G,I a b c G→B13 P (fun d e f g=>I d e f g∧μ d e f g<μ a b c G) a b c G
def B14:Y k6:=fun a b H=>
  L2 P a b true H
abbrev k7:Sk:=[(0,J),(1,.v),(5,.v),(6,J)]
def B16 (P:PT) (a:Y k7):Y k7:=fun b c d e H=>
  a b c d (i64.wrap (e+1)) H
def B17 (a:Y k7):Y k7:=fun c d e b H=>
  newK H [(I b)] 2 (fun f g=>apK T0 2 g e (slice (some ⟨f,0,none⟩) 1 (1+1)) (fun h i=>B16 P a c d h b i))
def B18 (a:Y k7):Y k7:=fun b c d e H=>
  pif (decide ((e:Int)<b)) (B17 P a b c d e H) (B14 P c d H)
def L15:Y k7:=fun j k l m H=>
  ∃ (I:Y k7) (μ:NTy k7 (AHeap→Nat)),I j k l m H∧∀ a b c d G,I a b c d G→B18 P (fun e f g h i=>I e f g h i∧μ e f g h i<μ a b c d G) a b c d G
abbrev k8:Sk:=[(0,J),(1,.v),(5,.v)]
def B19:Y k8:=fun a b c H=>
  L15 P a b c 0 H
abbrev k9:Sk:=[(0,J),(1,.v)]
def B20:Y k9:=fun a b H=>
  newK H [] 2 (fun c d=>B19 P a b (slice (some ⟨c,0,none⟩) 0 (0+1)) d)
def B21:Y k9:=fun a b H=>
  B20 P a b H
theorem main:Z Tryz.f112 68 k9 (B21 P) P:=
  s (B20 P) (s (B19 P) (zBW (s (L15 P) (zBC (l (B18 P) (fun N15=>(zBW (zBW (b (cnd 14 (En 68 k7 (B17 P N15)) (En 68 k6 (B14 P)))) (zBN rfl zBS (zBT (fun _ _ h=>h)))) (zBW (zBC (a (B16 P N15))) (a N15))))))) (zBW (s (L2 P) (zBC (l (B13 P) (fun N2=>(zBW (zBW (b (cnd 21 (En 68 k6 (B12 P N2)) (En 68 k0 (B1 P)))) (zBN rfl zBS (zBT (fun _ _ h=>h)))) (zBC (s (B11 P N2) (s (L3 P N2) (zBC (l (B10 P N2) (fun N3=>(zBW (zBW (b (cnd 25 (En 68 k2 (B9 P N2 N3)) (En 68 k1 N2))) (zBN rfl zBS (zBT (fun _ _ h=>h)))) (zBW (zBC (zBW (d (tf 18) (En 68 k5 (B8 P N2 N3))) (zBW (b (cnd 46 (En 68 k4 (B7 P N2 N3)) (En 68 k2 (B4 P N2 N3)))) (zBN rfl (s (B6 P N2 N3) (s (B5 P N2 N3) (a (B4 P N2 N3)))) zBS)))) (a N3)))))))))))))) (e ()))))
theorem ac (a:Int) (b:Value) (H:AHeap) (h:B21 P a b H):A 112 [(I a),b] H P:=
  fn Tryz.func112 (main P) h
end F112
namespace F113
variable (P:PT)
abbrev k0:Sk:=[(1,.x)]
def B1:Y k0:=fun b H=>
  li H b 0 (fun m=>ld1 H b 1 (fun n=>A 161 [(I m),n] H (fun o c=>asB o (fun p=>pif p (ld1 c b 1 (fun q=>A 162 [q,(func (.func 163) ⟨[]⟩ ⟨[]⟩)] c (fun r d=>asB r (fun s=>pif s (ld1 d b 1 (fun e=>A 164 [e,(func (.func 165) ⟨[]⟩ ⟨[]⟩)] d (fun f a=>asB f (fun g=>pif g (li a b 0 (fun h=>ld1 a b 1 (fun i=>A 166 [(I h),i] a (fun j k=>asB j (fun l=>P (bool l) k))))) (P (bool false) a))))) (P (bool false) d))))) (P (bool false) c)))))
abbrev k1:Sk:=[(0,.g [.i,.v])]
def B2:Y k1:=fun a b H=>
  newK H [(I a),b] 26 (fun c d=>B1 P c d)
theorem main:Z Tryz.f113 25 k1 (B2 P) P:=
  s (B1 P) (e ())
theorem ac (a:Int) (b:Value) (H:AHeap) (h:B2 P a b H):A 113 [(agg ⟨[(I a),b]⟩)] H P:=
  fn Tryz.func113 (main P) h
end F113
namespace F114
variable (P:PT)
abbrev k0:Sk:=[]
def B1:Y k0:=fun H=>
  newK H [(string (⟨#[116,104,101,116,97]⟩)),(string (⟨#[107,52]⟩)),(string (⟨#[107,51,51]⟩)),(string (⟨#[112,114,105,115,109]⟩)),(string (⟨#[99,117,98,101]⟩)),(string (⟨#[112,101,116,101,114,115,101,110]⟩)),(string (⟨#[116,105,101,116,122,101]⟩)),(string (⟨#[102,108,111,119,101,114,53]⟩)),(string (⟨#[98,114,105,100,103,101]⟩))] 9 (fun a b=>P (slice (some ⟨a,0,none⟩) 9 (9+1)) b)
def B2:Y k0:=fun H=>
  B1 P H
theorem main:Z Tryz.f114 2 k0 (B2 P) P:=
  s (B1 P) (e ())
theorem ac (H:AHeap) (h:B2 P H):A 114 [] H P:=
  fn Tryz.func114 (main P) h
end F114
namespace F115
variable (P:PT)
abbrev k0:Sk:=[(2,.x)]
def B1:Y k0:=fun a H=>
  stK H a 0 [(I 0),(slice none 0 0)] (fun b=>li b a 0 (fun c=>ld1 b a 1 (fun d=>P (tuple ⟨[(agg ⟨[(I c),d]⟩),(bool false)]⟩) b)))
def B2:Y k0:=fun a H=>
  newK H [(I 0),(I 1),(I 0),(I 1),(I 0),(I 1)] 66 (fun e f=>A 158 [(I 2),(slice (some ⟨e,0,none⟩) 3 (3+1))] f (fun g h=>agg2 g (fun i j=>asI .i64 i (fun k=>stK h a 0 [(I k),j] (fun b=>li b a 0 (fun c=>ld1 b a 1 (fun d=>P (tuple ⟨[(agg ⟨[(I c),d]⟩),(bool true)]⟩) b)))))))
def B3:Y k0:=fun a H=>
  newK H [(I 0),(I 1),(I 0),(I 2),(I 0),(I 3),(I 1),(I 2),(I 1),(I 3),(I 2),(I 3)] 66 (fun e f=>A 158 [(I 4),(slice (some ⟨e,0,none⟩) 6 (6+1))] f (fun g h=>agg2 g (fun i j=>asI .i64 i (fun k=>stK h a 0 [(I k),j] (fun b=>li b a 0 (fun c=>ld1 b a 1 (fun d=>P (tuple ⟨[(agg ⟨[(I c),d]⟩),(bool true)]⟩) b)))))))
abbrev k1:Sk:=[(2,.x),(4,.v)]
def B4:Y k1:=fun a c H=>
  A 158 [(I 6),c] H (fun d e=>agg2 d (fun f g=>asI .i64 f (fun h=>stK e a 0 [(I h),g] (fun b=>li b a 0 (fun i=>ld1 b a 1 (fun j=>P (tuple ⟨[(agg ⟨[(I i),j]⟩),(bool true)]⟩) b))))))
abbrev k2:Sk:=[(2,.x),(4,.v),(5,J)]
def B6 (P:PT) (a:Y k2):Y k2:=fun b c d H=>
  a b c (i64.wrap (d+1)) H
def B7 (b:Y k2):Y k2:=fun c d a H=>
  newK H [(I a),(I 3),(I a),(I 4),(I a),(I 5)] 66 (fun e f=>apK T0 66 f d (slice (some ⟨e,0,none⟩) 3 (3+1)) (fun g h=>B6 P b c g a h))
def B8 (d:Y k2):Y k2:=fun a b c H=>
  pif (decide ((c:Int)<3)) (B7 P d a b c H) (B4 P a b H)
def L5:Y k2:=fun h i j H=>
  ∃ (I:Y k2) (μ:NTy k2 (AHeap→Nat)),I h i j H∧∀ a b c G,I a b c G→B8 P (fun d e f g=>I d e f g∧μ d e f g<μ a b c G) a b c G
def B9:Y k1:=fun a b H=>
  L5 P a b 0 H
def B10:Y k1:=fun b e H=>
  newK H [(I 0),(I 3),(I 1),(I 4),(I 2),(I 5)] 66 (fun f g=>apK T0 66 g e (slice (some ⟨f,0,none⟩) 3 (3+1)) (fun h i=>A 158 [(I 6),h] i (fun j k=>agg2 j (fun l m=>asI .i64 l (fun n=>stK k b 0 [(I n),m] (fun a=>li a b 0 (fun c=>ld1 a b 1 (fun d=>P (tuple ⟨[(agg ⟨[(I c),d]⟩),(bool true)]⟩) a))))))))
def B11:Y k1:=fun a b H=>
  newK H [(I 0),(I 1),(I 2)] 2 (fun c d=>A 167 [b,(slice (some ⟨c,0,none⟩) 3 (3+1))] d (fun e f=>newK f [(I 3),(I 4),(I 5)] 2 (fun g h=>A 167 [e,(slice (some ⟨g,0,none⟩) 3 (3+1))] h (fun i j=>B10 P a i j))))
def B12:Y k1:=fun a c H=>
  A 158 [(I 8),c] H (fun d e=>agg2 d (fun f g=>asI .i64 f (fun h=>stK e a 0 [(I h),g] (fun b=>li b a 0 (fun i=>ld1 b a 1 (fun j=>P (tuple ⟨[(agg ⟨[(I i),j]⟩),(bool true)]⟩) b))))))
abbrev k3:Sk:=[(2,.x),(4,.v),(6,J)]
def B14 (P:PT) (a:Y k3):Y k3:=fun b c d H=>
  a b c (i64.wrap (d+1)) H
abbrev k4:Sk:=[(2,.x),(4,.v),(6,J),(7,J)]
def B16 (P:PT) (b:Y k3) (a:Y k4):Y k4:=fun c d e f H=>
  a c d e (i64.wrap (2*f)) H
def B17 (a:Y k3) (b:Y k4):Y k4:=fun e f c d H=>
  newK H [(I c),(I (i64.wrap (c+d)))] 66 (fun g h=>apK T0 66 h f (slice (some ⟨g,0,none⟩) 1 (1+1)) (fun i j=>B16 P a b e i c d j))
def B18 (a:Y k3) (b:Y k4):Y k4:=fun e f c d H=>
  pif ((i64.wrap (BitVec.ofInt 64 c&&&BitVec.ofInt 64 d).toNat:Int)==0) (B17 P a b e f c d H) (B16 P a b e f c d H)
def B19 (a:Y k3) (b:Y k4):Y k4:=fun c d e f H=>
  pif (decide ((f:Int)<8)) (B18 P a b c d e f H) (B14 P a c d e H)
def L15 (a:Y k3):Y k4:=fun k l m n H=>
  ∃ (I:Y k4) (μ:NTy k4 (AHeap→Nat)),I k l m n H∧∀ b c d e G,I b c d e G→B19 P a (fun f g h i j=>I f g h i j∧μ f g h i j<μ b c d e G) b c d e G
def B20 (a:Y k3):Y k3:=fun b c d H=>
  L15 P a b c d 1 H
def B21 (a:Y k3):Y k3:=fun b c d H=>
  pif (decide ((d:Int)<8)) (B20 P a b c d H) (B12 P b c H)
def L13:Y k3:=fun h i j H=>
  ∃ (I:Y k3) (μ:NTy k3 (AHeap→Nat)),I h i j H∧∀ a b c G,I a b c G→B21 P (fun d e f g=>I d e f g∧μ d e f g<μ a b c G) a b c G
def B22:Y k1:=fun a b H=>
  L13 P a b 0 H
def B23:Y k1:=fun a c H=>
  A 158 [(I 10),c] H (fun d e=>agg2 d (fun f g=>asI .i64 f (fun h=>stK e a 0 [(I h),g] (fun b=>li b a 0 (fun i=>ld1 b a 1 (fun j=>P (tuple ⟨[(agg ⟨[(I i),j]⟩),(bool true)]⟩) b))))))
abbrev k5:Sk:=[(2,.x),(4,.v),(8,J)]
def B25 (P:PT) (a:Y k5):Y k5:=fun b c d H=>
  a b c (i64.wrap (d+1)) H
def B26 (b:Y k5):Y k5:=fun c d a H=>
  newK H [(I a),(I (Int.tmod (i64.wrap (a+1)) 5)),(I a),(I (i64.wrap (a+5))),(I (i64.wrap (a+5))),(I (i64.wrap ((Int.tmod (i64.wrap (a+2)) 5)+5)))] 66 (fun e f=>apK T0 66 f d (slice (some ⟨e,0,none⟩) 3 (3+1)) (fun g h=>B25 P b c g a h))
def B27 (a:Y k5):Y k5:=fun b c d H=>
  pif (decide ((d:Int)<5)) (B26 P a b c d H) (B23 P b c H)
def L24:Y k5:=fun h i j H=>
  ∃ (I:Y k5) (μ:NTy k5 (AHeap→Nat)),I h i j H∧∀ a b c G,I a b c G→B27 P (fun d e f g=>I d e f g∧μ d e f g<μ a b c G) a b c G
def B28:Y k1:=fun a b H=>
  L24 P a b 0 H
def B29:Y k1:=fun b e H=>
  newK H [(I 0),(I 1),(I 10),(I 4),(I 11),(I 5)] 66 (fun f g=>apK T0 66 g e (slice (some ⟨f,0,none⟩) 3 (3+1)) (fun h i=>A 158 [(I 12),h] i (fun j k=>agg2 j (fun l m=>asI .i64 l (fun n=>stK k b 0 [(I n),m] (fun a=>li a b 0 (fun c=>ld1 a b 1 (fun d=>P (tuple ⟨[(agg ⟨[(I c),d]⟩),(bool true)]⟩) a))))))))
def B30:Y k1:=fun a b H=>
  newK H [(I 0),(I 10),(I 11)] 2 (fun c d=>A 167 [b,(slice (some ⟨c,0,none⟩) 3 (3+1))] d (fun e f=>B29 P a e f))
abbrev k6:Sk:=[(2,.x),(4,.v),(9,.x),(11,J)]
def B32 (P:PT) (a:Y k6):Y k6:=fun c d e b H=>
  a c d e (i64.wrap (b+1)) H
def B33 (b:Y k6):Y k6:=fun f g c a H=>
  ld1 H c 1 (fun h=>idxK h a 2 (fun d e=>li H d e (fun i=>li H d (e+1) (fun j=>newK H [(I i),(I j)] 66 (fun k l=>apK T0 66 l g (slice (some ⟨k,0,none⟩) 1 (1+1)) (fun m n=>B32 P b f m c a n))))))
def B34 (b:Y k6):Y k6:=fun d e c a H=>
  ld1 H c 1 (fun f=>idxK f a 2 (fun g h=>li H g h (fun i=>pif ((i:Int) != 0) (B33 P b d e c a H) (B32 P b d e c a H))))
def B35 (b:Y k6):Y k6:=fun c d e a H=>
  ld1 H e 1 (fun f=>lenK f (fun g=>pif (decide ((a:Int)<(g:Int))) (B34 P b c d e a H) (B30 P c d H)))
def L31:Y k6:=fun k l m c H=>
  ∃ (I:Y k6) (μ:NTy k6 (AHeap→Nat)),I k l m c H∧∀ d e f a G,I d e f a G→B35 P (fun g h i b j=>I g h i b j∧μ g h i b j<μ d e f a G) d e f a G
abbrev k7:Sk:=[(2,.x),(4,.v),(9,.x)]
def B36:Y k7:=fun a b c H=>
  L31 P a b c 0 H
def B37:Y k1:=fun d e H=>
  A 115 [(string (⟨#[112,101,116,101,114,115,101,110]⟩))] H (fun f g=>tup2 f (fun h i=>agg2 h (fun j k=>asI .i64 j (fun l=>asB i (fun m=>newK g [(I 0),(slice none 0 0)] 26 (fun a b=>stK b a 0 [(I l),k] (fun c=>B36 P d e a c)))))))
def B38:Y k1:=fun b f H=>
  newK H [(I 10),(I 11),(I 12),(I 13),(I 14),(I 15),(I 16),(I 17),(I 18),(I 19)] 2 (fun g h=>A 167 [f,(slice (some ⟨g,0,none⟩) 10 (10+1))] h (fun i j=>A 158 [(I 20),i] j (fun k l=>agg2 k (fun m n=>asI .i64 m (fun c=>stK l b 0 [(I c),n] (fun a=>li a b 0 (fun d=>ld1 a b 1 (fun e=>P (tuple ⟨[(agg ⟨[(I d),e]⟩),(bool true)]⟩) a))))))))
def B39:Y k1:=fun a b H=>
  newK H [(I 5),(I 6),(I 7),(I 8),(I 9)] 2 (fun c d=>A 167 [b,(slice (some ⟨c,0,none⟩) 5 (5+1))] d (fun e f=>B38 P a e f))
abbrev k8:Sk:=[(2,.x),(4,.v),(12,J)]
def B41 (P:PT) (a:Y k8):Y k8:=fun c d b H=>
  a c d (i64.wrap (b+1)) H
def B42 (b:Y k8):Y k8:=fun c d a H=>
  newK H [(I a),(I (i64.wrap (a+5))),(I a),(I (i64.wrap (a+10))),(I a),(I (i64.wrap (a+15)))] 66 (fun e f=>apK T0 66 f d (slice (some ⟨e,0,none⟩) 3 (3+1)) (fun g h=>B41 P b c g a h))
def B43 (b:Y k8):Y k8:=fun c d a H=>
  pif (decide ((a:Int)<5)) (B42 P b c d a H) (B39 P c d H)
def L40:Y k8:=fun i j c H=>
  ∃ (I:Y k8) (μ:NTy k8 (AHeap→Nat)),I i j c H∧∀ d e a G,I d e a G→B43 P (fun f g b h=>I f g b h∧μ f g b h<μ d e a G) d e a G
def B44:Y k1:=fun a b H=>
  L40 P a b 0 H
def B45:Y k1:=fun b e H=>
  newK H [(I 4),(I 9)] 66 (fun f g=>apK T0 66 g e (slice (some ⟨f,0,none⟩) 1 (1+1)) (fun h i=>A 158 [(I 10),h] i (fun j k=>agg2 j (fun l m=>asI .i64 l (fun n=>stK k b 0 [(I n),m] (fun a=>li a b 0 (fun c=>ld1 a b 1 (fun d=>P (tuple ⟨[(agg ⟨[(I c),d]⟩),(bool true)]⟩) a))))))))
abbrev k9:Sk:=[(2,.x),(4,.v),(13,J)]
def B47 (P:PT) (a:Y k9):Y k9:=fun c d b H=>
  a c d (i64.wrap (b+5)) H
def B48 (b:Y k9):Y k9:=fun c d a H=>
  newK H [(I a),(I (i64.wrap (a+2))),(I a),(I (i64.wrap (a+3))),(I (i64.wrap (a+1))),(I (i64.wrap (a+2))),(I (i64.wrap (a+1))),(I (i64.wrap (a+3))),(I (i64.wrap (a+2))),(I (i64.wrap (a+3))),(I a),(I (i64.wrap (a+4))),(I (i64.wrap (a+1))),(I (i64.wrap (a+4)))] 66 (fun e f=>apK T0 66 f d (slice (some ⟨e,0,none⟩) 7 (7+1)) (fun g h=>B47 P b c g a h))
def B49 (b:Y k9):Y k9:=fun c d a H=>
  pif (decide ((a:Int)≤5)) (B48 P b c d a H) (B45 P c d H)
def L46:Y k9:=fun i j c H=>
  ∃ (I:Y k9) (μ:NTy k9 (AHeap→Nat)),I i j c H∧∀ d e a G,I d e a G→B49 P (fun f g b h=>I f g b h∧μ f g b h<μ d e a G) d e a G
def B50:Y k1:=fun a b H=>
  L46 P a b 0 H
abbrev k10:Sk:=[(2,.x),(4,.v),(15,.s)]
def B51:Y k10:=fun b c a H=>
  pif (ByteArray.toList a==ByteArray.toList (⟨#[98,114,105,100,103,101]⟩)) (B50 P b c H) (B1 P b H)
def B52:Y k10:=fun b c a H=>
  pif (ByteArray.toList a==ByteArray.toList (⟨#[102,108,111,119,101,114,53]⟩)) (B44 P b c H) (B51 P b c a H)
def B53:Y k10:=fun b c a H=>
  pif (ByteArray.toList a==ByteArray.toList (⟨#[116,105,101,116,122,101]⟩)) (B37 P b c H) (B52 P b c a H)
def B54:Y k10:=fun b c a H=>
  pif (ByteArray.toList a==ByteArray.toList (⟨#[112,101,116,101,114,115,101,110]⟩)) (B28 P b c H) (B53 P b c a H)
def B55:Y k10:=fun b c a H=>
  pif (ByteArray.toList a==ByteArray.toList (⟨#[99,117,98,101]⟩)) (B22 P b c H) (B54 P b c a H)
def B56:Y k10:=fun b c a H=>
  pif (ByteArray.toList a==ByteArray.toList (⟨#[112,114,105,115,109]⟩)) (B11 P b c H) (B55 P b c a H)
def B57:Y k10:=fun b c a H=>
  pif (ByteArray.toList a==ByteArray.toList (⟨#[107,51,51]⟩)) (B9 P b c H) (B56 P b c a H)
def B58:Y k10:=fun b c a H=>
  pif (ByteArray.toList a==ByteArray.toList (⟨#[107,52]⟩)) (B3 P b H) (B57 P b c a H)
def B59:Y k10:=fun b c a H=>
  pif (ByteArray.toList a==ByteArray.toList (⟨#[116,104,101,116,97]⟩)) (B2 P b H) (B58 P b c a H)
abbrev k11:Sk:=[(0,.s),(2,.x),(4,.v)]
def B60:Y k11:=fun a b c H=>
  B59 P b c a H
abbrev k12:Sk:=[(0,.s),(2,.x)]
def B61:Y k12:=fun a b H=>
  newK H [] 66 (fun c d=>B60 P a b (slice (some ⟨c,0,none⟩) 0 (0+1)) d)
abbrev k13:Sk:=[(0,.s)]
def B62:Y k13:=fun a H=>
  newK H [(I 0),(slice none 0 0)] 26 (fun b c=>B61 P a b c)
theorem main:Z Tryz.f115 228 k13 (B62 P) P:=
  s (B61 P) (s (B60 P) (zBW (s (B59 P) (zBC (zBW (b (cnd 16 (En 228 k0 (B2 P)) (En 228 k10 (B58 P)))) (zBN rfl (e ()) (zBW (b (cnd 23 (En 228 k0 (B3 P)) (En 228 k10 (B57 P)))) (zBN rfl (e ()) (zBW (b (cnd 33 (En 228 k1 (B9 P)) (En 228 k10 (B56 P)))) (zBN rfl (zBW (s (L5 P) (zBC (l (B8 P) (fun N5=>(zBW (zBW (b (cnd 36 (En 228 k2 (B7 P N5)) (En 228 k1 (B4 P)))) (zBN rfl zBS (zBT (fun _ _ h=>h)))) (zBW (zBC (a (B6 P N5))) (a N5))))))) (e ())) (zBW (b (cnd 50 (En 228 k1 (B11 P)) (En 228 k10 (B55 P)))) (zBN rfl (s (B10 P) (e ())) (zBW (b (cnd 64 (En 228 k1 (B22 P)) (En 228 k10 (B54 P)))) (zBN rfl (zBW (s (L13 P) (zBC (l (B21 P) (fun N13=>(zBW (zBW (b (cnd 67 (En 228 k3 (B20 P N13)) (En 228 k1 (B12 P)))) (zBN rfl zBS (zBT (fun _ _ h=>h)))) (zBW (zBC (s (L15 P N13) (zBC (l (B19 P N13) (fun N15=>(zBW (zBW (b (cnd 71 (En 228 k4 (B18 P N13 N15)) (En 228 k3 (B14 P N13)))) (zBN rfl zBS (zBT (fun _ _ h=>h)))) (zBW (zBC (zBW (b (cnd 77 (En 228 k4 (B17 P N13 N15)) (En 228 k4 (B16 P N13 N15)))) (zBN rfl (a (B16 P N13 N15)) zBS))) (a N15)))))))) (a N13))))))) (e ())) (zBW (b (cnd 88 (En 228 k1 (B28 P)) (En 228 k10 (B53 P)))) (zBN rfl (zBW (s (L24 P) (zBC (l (B27 P) (fun N24=>(zBW (zBW (b (cnd 91 (En 228 k5 (B26 P N24)) (En 228 k1 (B23 P)))) (zBN rfl zBS (zBT (fun _ _ h=>h)))) (zBW (zBC (a (B25 P N24))) (a N24))))))) (e ())) (zBW (b (cnd 115 (En 228 k1 (B37 P)) (En 228 k10 (B52 P)))) (zBN rfl (s (B36 P) (zBW (s (L31 P) (zBC (l (B35 P) (fun N31=>(zBW (zBW (b (cnd 125 (En 228 k6 (B34 P N31)) (En 228 k1 (B30 P)))) (zBN rfl zBS (zBT (fun _ _ h=>h)))) (zBW (zBC (zBW (b (cnd 134 (En 228 k6 (B33 P N31)) (En 228 k6 (B32 P N31)))) (zBN rfl (a (B32 P N31)) zBS))) (a N31))))))) (s (B29 P) (e ())))) (zBW (b (cnd 153 (En 228 k1 (B44 P)) (En 228 k10 (B51 P)))) (zBN rfl (zBW (s (L40 P) (zBC (l (B43 P) (fun N40=>(zBW (zBW (b (cnd 156 (En 228 k8 (B42 P N40)) (En 228 k1 (B39 P)))) (zBN rfl zBS (zBT (fun _ _ h=>h)))) (zBW (zBC (a (B41 P N40))) (a N40))))))) (s (B38 P) (e ()))) (zBW (b (cnd 181 (En 228 k1 (B50 P)) (En 228 k0 (B1 P)))) (zBN rfl (zBW (s (L46 P) (zBC (l (B49 P) (fun N46=>(zBW (zBW (b (cnd 184 (En 228 k9 (B48 P N46)) (En 228 k1 (B45 P)))) (zBN rfl zBS (zBT (fun _ _ h=>h)))) (zBW (zBC (a (B47 P N46))) (a N46))))))) (e ())) zBS)))))))))))))))))))) (e ())))
theorem ac (a:ByteArray) (H:AHeap) (h:B62 P a H):A 115 [(string a)] H P:=
  fn Tryz.func115 (main P) h
end F115
namespace F116
variable (P:PT)
abbrev k0:Sk:=[(2,.x),(4,.x),(5,.v)]
def B1:Y k0:=fun d a e H=>
  li H d 0 (fun f=>A 158 [(I f),e] H (fun g h=>agg2 g (fun i j=>asI .i64 i (fun k=>stK h a 0 [(I k),j] (fun b=>li b a 0 (fun l=>ld1 b a 1 (fun c=>P (agg ⟨[(I l),c]⟩) b)))))))
abbrev k1:Sk:=[(1,.v),(2,.x),(4,.x),(5,.v),(6,J)]
def B3 (P:PT) (a:Y k1):Y k1:=fun b c d e f H=>
  a b c d e (i64.wrap (f+1)) H
def B4 (m:Y k1):Y k1:=fun a b n o c H=>
  ld1 H b 1 (fun p=>idxK p c 2 (fun q r=>li H q r (fun s=>idxK a s 1 (fun t u=>li H t u (fun v=>ld1 H b 1 (fun w=>idxK w c 2 (fun x d=>li H x (d+1) (fun e=>idxK a e 1 (fun f g=>li H f g (fun h=>newK H [(I v),(I h)] 66 (fun i j=>apK T0 66 j o (slice (some ⟨i,0,none⟩) 1 (1+1)) (fun k l=>B3 P m a b n k c l))))))))))))
def B5 (e:Y k1):Y k1:=fun f a b c d H=>
  ld1 H a 1 (fun g=>lenK g (fun h=>pif (decide ((d:Int)<(h:Int))) (B4 P e f a b c d H) (B1 P a b c H)))
def L2:Y k1:=fun l m n o p H=>
  ∃ (I:Y k1) (μ:NTy k1 (AHeap→Nat)),I l m n o p H∧∀ a b c d e G,I a b c d e G→B5 P (fun f g h i j k=>I f g h i j k∧μ f g h i j k<μ a b c d e G) a b c d e G
abbrev k2:Sk:=[(1,.v),(2,.x),(4,.x),(5,.v)]
def B6:Y k2:=fun a b c d H=>
  L2 P a b c d 0 H
abbrev k3:Sk:=[(1,.v),(2,.x),(4,.x)]
def B7:Y k3:=fun a b c H=>
  newK H [] 66 (fun d e=>B6 P a b c (slice (some ⟨d,0,none⟩) 0 (0+1)) e)
abbrev k4:Sk:=[(0,.g [.i,.v]),(1,.v)]
def B8:Y k4:=fun a b c H=>
  newK H [(I a),b] 26 (fun d e=>newK e [(I 0),(slice none 0 0)] 26 (fun f g=>B7 P c d f g))
theorem main:Z Tryz.f116 41 k4 (B8 P) P:=
  s (B7 P) (s (B6 P) (zBW (s (L2 P) (zBC (l (B5 P) (fun N2=>(zBW (zBW (b (cnd 12 (En 41 k1 (B4 P N2)) (En 41 k0 (B1 P)))) (zBN rfl zBS (zBT (fun _ _ h=>h)))) (zBW (zBC (d (tf 23) (En 41 k1 (B3 P N2)))) (a N2))))))) (e ())))
theorem ac (a:Int) (b c:Value) (H:AHeap) (h:B8 P a b c H):A 116 [(agg ⟨[(I a),b]⟩),c] H P:=
  fn Tryz.func116 (main P) h
end F116
namespace F117
variable (P:PT)
abbrev k0:Sk:=[(5,.v)]
def B1:Y k0:=fun a H=>
  P a H
abbrev k1:Sk:=[(0,.v),(1,J),(5,.v),(6,J)]
def B3 (P:PT) (a:Y k1):Y k1:=fun b c d e H=>
  a b c d (i64.wrap (e+1)) H
abbrev k2:Sk:=[(0,.v),(1,J),(5,.v),(6,J),(7,J)]
def B4 (t:Y k1):Y k2:=fun u v d g e H=>
  sliceK H 2 d none (some (I e)) 1 (fun w=>sliceK H 2 d (some (I e)) none 1 (fun f=>(A 168 [w] H (fun x h=>(sliceK h 2 d (some (I e)) none 1 (fun y=>(y=f)∧(h=h)))∧(newK h [(I g)] 2 (fun z C=>apK T0 2 C x (slice (some ⟨z,0,none⟩) 1 (1+1)) (fun D a=>(sliceK a 2 d (some (I e)) none 1 (fun i=>(i=f)∧(a=a)))∧(apK T0 2 a D f (fun j k=>B3 P t u v j g k)))))))∧(newK H [(I g)] 2 (fun l m=>A 168 [w] m (fun n b=>(sliceK b 2 d (some (I e)) none 1 (fun o=>(o=f)∧(b=b)))∧(apK T0 2 b n (slice (some ⟨l,0,none⟩) 1 (1+1)) (fun p c=>(sliceK c 2 d (some (I e)) none 1 (fun q=>(q=f)∧(c=c)))∧(apK T0 2 c p f (fun r s=>B3 P t u v r g s)))))))))
def B5 (c:Y k1):Y k1:=fun a d e b H=>
  A 60 [a,(I (i64.wrap (b+1)))] H (fun f g=>asI .i64 f (fun h=>B4 P c a d e b h g))
def B6 (d:Y k1):Y k1:=fun e a b c H=>
  pif (decide ((c:Int)<a)) (B5 P d e a b c H) (B1 P b H)
def L2:Y k1:=fun j k l m H=>
  ∃ (I:Y k1) (μ:NTy k1 (AHeap→Nat)),I j k l m H∧∀ a b c d G,I a b c d G→B6 P (fun e f g h i=>I e f g h i∧μ e f g h i<μ a b c d G) a b c d G
abbrev k3:Sk:=[(0,.v),(1,J),(5,.v)]
def B7:Y k3:=fun a b c H=>
  L2 P a b c 0 H
abbrev k4:Sk:=[(0,.v),(1,J)]
def B8:Y k4:=fun a b H=>
  newK H [] 2 (fun c d=>B7 P a b (slice (some ⟨c,0,none⟩) 0 (0+1)) d)
def B9:Y k4:=fun a b H=>
  B8 P a b H
theorem main:Z Tryz.f117 30 k4 (B9 P) P:=
  s (B8 P) (s (B7 P) (zBW (s (L2 P) (zBC (l (B6 P) (fun N2=>(zBW (zBW (b (cnd 11 (En 30 k1 (B5 P N2)) (En 30 k0 (B1 P)))) (zBN rfl zBS (zBT (fun _ _ h=>h)))) (zBW (zBC (s (B4 P N2) (t (.op 0 [] (.op 1 [] (.op 2 [] (.op 4 [] (.op 7 [] (.op 8 [] (.op 9 [] (.alt (.op 3 [9] (.op 5 [] (.op 6 [9] (.op 10 [] (.op 11 [] .done))))) (.op 5 [] (.op 3 [9] (.op 6 [9] (.op 10 [] (.op 11 [] .done))))))))))))) (En 30 k1 (B3 P N2))))) (a N2))))))) (e ())))
theorem ac (a:Value) (b:Int) (H:AHeap) (h:B9 P a b H):A 117 [a,(I b)] H P:=
  fn Tryz.func117 (main P) h
end F117
namespace F118
variable (P:PT)
abbrev k0:Sk:=[(2,.x),(3,.x),(4,.x),(5,.v)]
def B1:Y k0:=fun e f a g H=>
  li H e 0 (fun h=>li H f 0 (fun i=>A 158 [(I (i64.wrap (h+i))),g] H (fun j k=>agg2 j (fun l m=>asI .i64 l (fun n=>stK k a 0 [(I n),m] (fun b=>li b a 0 (fun c=>ld1 b a 1 (fun d=>P (agg ⟨[(I c),d]⟩) b))))))))
abbrev k1:Sk:=[(2,.x),(3,.x),(4,.x),(5,.v),(6,J)]
def B3 (P:PT) (a:Y k1):Y k1:=fun b c d e f H=>
  a b c d e (i64.wrap (f+1)) H
def B4 (i:Y k1):Y k1:=fun a b j k c H=>
  ld1 H b 1 (fun l=>idxK l c 2 (fun m n=>li H m n (fun o=>li H a 0 (fun p=>ld1 H b 1 (fun q=>idxK q c 2 (fun r s=>li H r (s+1) (fun t=>li H a 0 (fun d=>newK H [(I (i64.wrap (o+p))),(I (i64.wrap (t+d)))] 66 (fun e f=>apK T0 66 f k (slice (some ⟨e,0,none⟩) 1 (1+1)) (fun g h=>B3 P i a b j g c h))))))))))
def B5 (f:Y k1):Y k1:=fun b a c d e H=>
  ld1 H a 1 (fun g=>lenK g (fun h=>pif (decide ((e:Int)<(h:Int))) (B4 P f b a c d e H) (B1 P b a c d H)))
def L2:Y k1:=fun l m n o p H=>
  ∃ (I:Y k1) (μ:NTy k1 (AHeap→Nat)),I l m n o p H∧∀ a b c d e G,I a b c d e G→B5 P (fun f g h i j k=>I f g h i j k∧μ f g h i j k<μ a b c d e G) a b c d e G
def B6:Y k0:=fun a b c d H=>
  L2 P a b c d 0 H
abbrev k2:Sk:=[(2,.x),(3,.x),(4,.x)]
def B7:Y k2:=fun a c d H=>
  newK H [] 66 (fun e b=>ld1 b a 1 (fun f=>apK T0 66 b (slice (some ⟨e,0,none⟩) 0 (0+1)) f (fun g h=>B6 P a c d g h)))
abbrev k3:Sk:=[(0,.g [.i,.v]),(1,.g [.i,.v])]
def B8:Y k3:=fun a b c d H=>
  newK H [(I a),b] 26 (fun e f=>newK f [(I c),d] 26 (fun g h=>newK h [(I 0),(slice none 0 0)] 26 (fun i j=>B7 P e g i j)))
theorem main:Z Tryz.f118 47 k3 (B8 P) P:=
  s (B7 P) (s (B6 P) (zBW (s (L2 P) (zBC (l (B5 P) (fun N2=>(zBW (zBW (b (cnd 15 (En 47 k1 (B4 P N2)) (En 47 k0 (B1 P)))) (zBN rfl zBS (zBT (fun _ _ h=>h)))) (zBW (zBC (d (tf 23) (En 47 k1 (B3 P N2)))) (a N2))))))) (e ())))
theorem ac (a:Int) (b:Value) (c:Int) (d:Value) (H:AHeap) (h:B8 P a b c d H):A 118 [(agg ⟨[(I a),b]⟩),(agg ⟨[(I c),d]⟩)] H P:=
  fn Tryz.func118 (main P) h
end F118
namespace F119
variable (P:PT)
abbrev k0:Sk:=[(7,.v)]
def B1:Y k0:=fun a H=>
  P a H
abbrev k1:Sk:=[(0,.v),(2,J),(4,.x),(7,.v),(8,J)]
def B3 (P:PT) (a:Y k1):Y k1:=fun b c d e f H=>
  a b c d e (i64.wrap (f-1)) H
abbrev k2:Sk:=[(0,.v),(2,J),(4,.x),(7,.v),(8,J),(9,J),(10,J),(12,.v),(13,J),(14,J)]
abbrev k3:Sk:=[(0,.v),(2,J),(4,.x),(7,.v),(8,J),(9,J),(10,J),(12,.v),(13,J),(14,J),(15,.v),(16,J)]
def B6 (P:PT) (n:Y k1) (o:Y k2) (g:Y k3):Y k3:=fun h i j k l m a b c d e f H=>
  g h i j k l m a b c d e (i64.wrap (f+1)) H
abbrev k4:Sk:=[(0,.v),(2,J),(4,.x),(7,.v),(8,J),(9,J),(10,J),(12,.v),(13,J),(17,J)]
def B7 (P:PT) (l:Y k1) (e:Y k2) (m:Y k3):Y k4:=fun f g h i j k a b c d H=>
  e f g h i j k a b c d H
abbrev k5:Sk:=[(0,.v),(2,J),(4,.x),(7,.v),(8,J),(9,J),(10,J),(12,.v),(13,J),(15,.v),(16,J),(17,J)]
def B8 (l:Y k1) (m:Y k2) (n:Y k3):Y k5:=fun o d p e q r f g a b c h H=>
  idxK b c 1 (fun s t=>li H s t (fun u=>idxK b c 1 (fun v w=>li H v w (fun x=>idxK e x 1 (fun y z=>li H y z (fun C=>nzK d (idxK e u 1 (fun i j=>stK H i j [(I (Int.tmod (i64.wrap (C+a)) d))] (fun k=>B7 P l m n o d p e q r f g a h k)))))))))
def B9 (l:Y k1) (m:Y k2) (n:Y k3):Y k5:=fun o d p e q r f g a b c h H=>
  idxK b c 1 (fun s t=>li H s t (fun u=>idxK b c 1 (fun v w=>li H v w (fun x=>idxK e x 1 (fun y z=>li H y z (fun C=>nzK d (idxK e u 1 (fun i j=>stK H i j [(I (Int.tmod (i64.wrap ((i64.wrap (C+d))-a)) d))] (fun k=>B7 P l m n o d p e q r f g a h k)))))))))
abbrev k6:Sk:=[(0,.v),(2,J),(4,.x),(7,.v),(8,J),(9,J),(10,J),(12,.v),(13,J),(14,J),(15,.v),(16,J),(17,J)]
def B10 (h:Y k1) (i:Y k2) (j:Y k3):Y k6:=fun k l m n o p b c d g e f a H=>
  pif (decide ((g:Int)<a)) (B8 P h i j k l m n o p b c d e f a H) (B9 P h i j k l m n o p b c d e f a H)
def B11 (i:Y k1) (j:Y k2) (k:Y k3):Y k6:=fun l m n o p h e a f b c d g H=>
  idxK c d 1 (fun q r=>li H q r (fun s=>pif ((s:Int) != h) (idxK a g 1 (fun t u=>li H t u (fun v=>idxK a b 1 (fun w x=>li H w x (fun y=>pif ((v:Int)==(i64.wrap (y-1))) (B10 P i j k l m n o p h e a f b c d g H) (B6 P i j k l m n o p h e a f b c d H)))))) (B6 P i j k l m n o p h e a f b c d H)))
def B12 (h:Y k1) (i:Y k2) (j:Y k3):Y k3:=fun k l d m n o e f g a b c H=>
  li H d 0 (fun p=>ld1 H d 1 (fun q=>idxK b c 1 (fun r s=>li H r s (fun t=>A 170 [(agg ⟨[(I p),q]⟩),(I t),(I a)] H (fun u v=>asI .i64 u (fun w=>B11 P h i j k l d m n o e f g a b c w v))))))
def B13 (n:Y k1) (g:Y k2) (o:Y k3):Y k3:=fun h i j k l m a b c d e f H=>
  lenK e (fun p=>pif (decide ((f:Int)<(p:Int))) (B12 P n g o h i j k l m a b c d e f H) (g h i j k l m a b c d H))
def L5 (Q:Y k1) (R:Y k2):Y k3:=fun S T U V X x9 m n o p q r H=>
  ∃ (I:Y k3) (μ:NTy k3 (AHeap→Nat)),I S T U V X x9 m n o p q r H∧∀ s t u v w x a b c d e f G,I s t u v w x a b c d e f G→B13 P Q R (fun y z C D F K g h i j k l L=>I y z C D F K g h i j k l L∧μ y z C D F K g h i j k l L<μ s t u v w x a b c d e f G) s t u v w x a b c d e f G
abbrev k7:Sk:=[(0,.v),(2,J),(4,.x),(7,.v),(8,J),(9,J),(10,J),(12,.v),(13,J),(14,J),(15,.v)]
def B14 (f:Y k1) (g:Y k2):Y k7:=fun h i j k l m a b c d e H=>
  L5 P f g h i j k l m a b c d e 0 H
def B15 (f:Y k1) (g:Y k2):Y k2:=fun h i b j k l c d e a H=>
  li H b 0 (fun m=>ld1 H b 1 (fun n=>A 82 [(agg ⟨[(I m),n]⟩),(I a)] H (fun o p=>B14 P f g h i b j k l c d e a o p)))
def B16 (e:Y k1) (k:Y k2):Y k2:=fun f g h i j l a c d b H=>
  pif ((b:Int) != a) (B15 P e k f g h i j l a c d b H) (B3 P e f g h i j H)
def L4 (z:Y k1):Y k2:=fun C D F K L Q i j k l H=>
  ∃ (I:Y k2) (μ:NTy k2 (AHeap→Nat)),I C D F K L Q i j k l H∧∀ m n o p q r a b c d G,I m n o p q r a b c d G→B16 P z (fun s t u v w x e f g h y=>I s t u v w x e f g h y∧μ s t u v w x e f g h y<μ m n o p q r a b c d G) m n o p q r a b c d G
abbrev k8:Sk:=[(0,.v),(2,J),(4,.x),(7,.v),(8,J),(9,J),(10,J),(11,J),(12,.v),(13,J)]
def B17 (e:Y k1):Y k8:=fun f g h i j k a b c d H=>
  L4 P e f g h i j k a c d b H
def B18 (h:Y k1):Y k8:=fun i b j c k d e f g a H=>
  idxK c d 1 (fun l m=>li H l m (fun n=>nzK b (idxK c d 1 (fun o p=>stK H o p [(I (Int.tmod (i64.wrap (n+a)) b))] (fun q=>B17 P h i b j c k d e f g a q)))))
def B19 (e:Y k1):Y k8:=fun f g h i j k c a b d H=>
  idxK b a 1 (fun l m=>li H l m (fun n=>pif (decide ((n:Int)<0)) (B3 P e f g h i j H) (B18 P e f g h i j k c a b d H)))
abbrev k9:Sk:=[(0,.v),(2,J),(4,.x),(7,.v),(8,J),(9,J),(10,J),(11,J)]
def B20 (g:Y k1):Y k9:=fun d e b h i f a c H=>
  li H b 0 (fun j=>ld1 H b 1 (fun k=>A 169 [(agg ⟨[(I j),k]⟩),(I a),(I f)] H (fun l m=>A 60 [d,(I (i64.wrap (e-1)))] m (fun n o=>asI .i64 n (fun p=>B19 P g d e b h i f a c l (i64.wrap (1+p)) o)))))
abbrev k10:Sk:=[(0,.v),(2,J),(4,.x),(7,.v),(8,J),(9,J)]
def B21 (c:Y k1):Y k10:=fun d e a f g b H=>
  ld1 H a 1 (fun h=>idxK h b 2 (fun i j=>li H i j (fun k=>ld1 H a 1 (fun l=>idxK l b 2 (fun m n=>li H m (n+1) (fun o=>B20 P c d e a f g b k o H))))))
def B22 (c:Y k1):Y k1:=fun a d b e f H=>
  ld1 H b 1 (fun g=>lenK g (fun h=>A 60 [a,(I (h:Int))] H (fun i j=>asI .i64 i (fun k=>B21 P c a d b e f k j))))
def B23 (c:Y k1):Y k1:=fun d e f a b H=>
  pif (decide ((b:Int)>0)) (B22 P c d e f a b H) (B1 P a H)
def L2:Y k1:=fun l m n o p H=>
  ∃ (I:Y k1) (μ:NTy k1 (AHeap→Nat)),I l m n o p H∧∀ a b c d e G,I a b c d e G→B23 P (fun f g h i j k=>I f g h i j k∧μ f g h i j k<μ a b c d e G) a b c d e G
abbrev k11:Sk:=[(0,.v),(2,J),(4,.x),(7,.v)]
def B24:Y k11:=fun a b c d H=>
  A 60 [a,(I 6)] H (fun e f=>asI .i64 e (fun g=>L2 P a b c d g f))
abbrev k12:Sk:=[(0,.v),(2,J),(4,.x)]
def B25:Y k12:=fun c d a H=>
  ld1 H a 1 (fun e=>lenK e (fun b=>mkR H 8 2 [(I 0)] (b:Int) (b:Int) (fun f g=>B24 P c d a f g)))
abbrev k13:Sk:=[(0,.v),(1,.g [.i,.v]),(2,J)]
def B26:Y k13:=fun c a b d H=>
  newK H [(I a),b] 26 (fun e f=>B25 P c d e f)
theorem main:Z Tryz.f119 149 k13 (B26 P) P:=
  s (B25 P) (s (B24 P) (zBW (s (L2 P) (zBC (l (B23 P) (fun N2=>(zBW (zBW (b (cnd 25 (En 149 k1 (B22 P N2)) (En 149 k0 (B1 P)))) (zBN rfl zBS (zBT (fun _ _ h=>h)))) (zBW (zBC (s (B21 P N2) (zBW (d (tf 14) (En 149 k9 (B20 P N2))) (s (B19 P N2) (zBW (zBW (b (cnd 58 (En 149 k1 (B3 P N2)) (En 149 k8 (B18 P N2)))) (zBN rfl (zBT (fun _ _ h=>h)) zBS)) (s (B17 P N2) (s (L4 P N2) (zBC (l (B16 P N2) (fun N4=>(zBW (zBW (b (cnd 73 (En 149 k2 (B15 P N2 N4)) (En 149 k1 (B3 P N2)))) (zBN rfl zBS (zBT (fun _ _ h=>h)))) (zBC (s (B14 P N2 N4) (s (L5 P N2 N4) (zBC (l (B13 P N2 N4) (fun N5=>(zBW (zBW (b (cnd 80 (En 149 k3 (B12 P N2 N4 N5)) (En 149 k2 N4))) (zBN rfl zBS (zBT (fun _ _ h=>h)))) (zBW (zBC (zBW (d (tf 8) (En 149 k6 (B11 P N2 N4 N5))) (zBW (d (tf 18) (cnd 107 (En 149 k6 (B10 P N2 N4 N5)) (En 149 k3 (B6 P N2 N4 N5)))) (zBN rfl (zBW (zBW (b (cnd 110 (En 149 k5 (B8 P N2 N4 N5)) (En 149 k5 (B9 P N2 N4 N5)))) (zBN rfl (d (tf 18) (En 149 k4 (B7 P N2 N4 N5))) (d (tf 20) (En 149 k4 (B7 P N2 N4 N5))))) (s N4 (zBT (fun _ _ h=>h)))) zBS)))) (a N5)))))))))))))))))))) (a N2))))))) (e ())))
theorem ac (c:Value) (a:Int) (b:Value) (d:Int) (H:AHeap) (h:B26 P c a b d H):A 119 [c,(agg ⟨[(I a),b]⟩),(I d)] H P:=
  fn Tryz.func119 (main P) h
end F119
namespace F121
variable (P:PT)
abbrev k0:Sk:=[]
def B1:Y k0:=fun H=>
  P (I (-1)) H
abbrev k1:Sk:=[(0,.v),(1,.v),(7,J),(8,J)]
def B3 (P:PT) (a:Y k1):Y k1:=fun b c d e H=>
  a b c d (i64.wrap (e+1)) H
abbrev k2:Sk:=[(5,J)]
def B4 (b:Y k1):Y k2:=fun a H=>
  P (I a) H
abbrev k3:Sk:=[(0,.v),(1,.v),(5,J),(7,J),(8,J)]
def B5 (a:Y k1):Y k3:=fun b c d f g H=>
  idxK b d 1 (fun h i=>ldI .u64 H h i (fun j=>callV Tryz.prog T0 c [(int .u64 j)] H (fun k e=>asB k (fun l=>pif l (B4 P a d e) (B3 P a b c f g e)))))
def B6 (b:Y k1):Y k1:=fun c d e a H=>
  B5 P b c d a e a H
def B7 (c:Y k1):Y k1:=fun d e a b H=>
  pif (decide ((b:Int)<a)) (B6 P c d e a b H) (B1 P H)
def L2:Y k1:=fun j k l m H=>
  ∃ (I:Y k1) (μ:NTy k1 (AHeap→Nat)),I j k l m H∧∀ a b c d G,I a b c d G→B7 P (fun e f g h i=>I e f g h i∧μ e f g h i<μ a b c d G) a b c d G
abbrev k4:Sk:=[(0,.v),(1,.v)]
def B8:Y k4:=fun a b H=>
  lenK a (fun c=>L2 P a b (c:Int) 0 H)
def B9:Y k4:=fun a b H=>
  B8 P a b H
theorem main:Z Tryz.f121 19 k4 (B9 P) P:=
  s (B8 P) (zBW (s (L2 P) (zBC (l (B7 P) (fun N2=>(zBW (b (cnd 9 (En 19 k1 (B6 P N2)) (En 19 k0 (B1 P)))) (zBW (zBN rfl zBS (zBT (fun _ _ h=>h))) (zBW (zBC (s (B5 P N2) (zBW (b (cnd 16 (En 19 k2 (B4 P N2)) (En 19 k1 (B3 P N2)))) (zBN rfl (e ()) zBS)))) (a N2)))))))) (e ()))
theorem ac (a b:Value) (H:AHeap) (h:B9 P a b H):A 121 [a,b] H P:=
  fn Tryz.func121 (main P) h
end F121
namespace F125
variable (P:PT)
abbrev k0:Sk:=[]
def B1:Y k0:=fun H=>
  P (I 0) H
def B2:Y k0:=fun H=>
  P (I 1) H
abbrev k1:Sk:=[(0,J),(1,J)]
def B3:Y k1:=fun a b H=>
  pif (decide ((a:Int)>b)) (B2 P H) (B1 P H)
def B4:Y k0:=fun H=>
  P (I (-1)) H
def B5:Y k1:=fun a b H=>
  pif (decide ((a:Int)<b)) (B4 P H) (B3 P a b H)
def B6:Y k0:=fun H=>
  P (I 1) H
abbrev k2:Sk:=[(0,J),(1,J),(6,.b)]
def B7:Y k2:=fun a b c H=>
  pif c (B6 P H) (B5 P a b H)
def B8:Y k0:=fun H=>
  P (I (-1)) H
def B9:Y k0:=fun H=>
  P (I 0) H
abbrev k3:Sk:=[(6,.b)]
def B10:Y k3:=fun a H=>
  pif a (B9 P H) (B8 P H)
abbrev k4:Sk:=[(0,J),(1,J),(5,.b),(6,.b)]
def B11:Y k4:=fun b c d a H=>
  pif d (B10 P a H) (B7 P b c a H)
abbrev k5:Sk:=[(0,J),(1,J),(5,.b)]
def B12:Y k5:=fun b a c H=>
  A 181 [(I a)] H (fun d e=>asB d (fun f=>B11 P b a c f e))
def B13:Y k1:=fun a b H=>
  A 181 [(I a)] H (fun c d=>asB c (fun e=>B12 P a b e d))
def B14:Y k1:=fun a b H=>
  B13 P a b H
theorem main:Z Tryz.f125 20 k1 (B14 P) P:=
  s (B13 P) (s (B12 P) (s (B11 P) (zBW (zBW (b (cnd 11 (En 20 k3 (B10 P)) (En 20 k2 (B7 P)))) (zBN rfl (zBW (zBW (b (cnd 12 (En 20 k0 (B9 P)) (En 20 k0 (B8 P)))) (zBN rfl (e ()) zBS)) (e ())) zBS)) (zBW (zBW (b (cnd 13 (En 20 k0 (B6 P)) (En 20 k1 (B5 P)))) (zBN rfl (e ()) zBS)) (zBW (zBW (b (cnd 16 (En 20 k0 (B4 P)) (En 20 k1 (B3 P)))) (zBN rfl (e ()) zBS)) (zBW (zBW (b (cnd 19 (En 20 k0 (B2 P)) (En 20 k0 (B1 P)))) (zBN rfl (e ()) zBS)) (e ())))))))
theorem ac (a b:Int) (H:AHeap) (h:B14 P a b H):A 125 [(I a),(I b)] H P:=
  fn Tryz.func125 (main P) h
end F125
namespace F126
variable (P:PT)
abbrev k0:Sk:=[]
def B1:Y k0:=fun H=>
  P (I 0) H
def B2:Y k0:=fun H=>
  P (I (-1)) H
abbrev k1:Sk:=[(0,.v),(1,.v)]
def B3:Y k1:=fun a b H=>
  lenK a (fun c=>lenK b (fun d=>pif (decide (((c:Int):Int)<(d:Int))) (B2 P H) (B1 P H)))
abbrev k2:Sk:=[(0,.v),(1,.v),(9,.v),(10,J),(11,J)]
def B5 (P:PT) (c:Y k2):Y k2:=fun d e f a b H=>
  c d e f a (i64.wrap (b+1)) H
abbrev k3:Sk:=[(8,J)]
def B6 (b:Y k2):Y k3:=fun a H=>
  P (I a) H
abbrev k4:Sk:=[(0,.v),(1,.v),(8,J),(9,.v),(10,J),(11,J)]
def B7 (c:Y k2):Y k4:=fun e f d g a b H=>
  pif ((d:Int) != 0) (B6 P c d H) (B5 P c e f g a b H)
abbrev k5:Sk:=[(0,.v),(1,.v),(6,J),(7,J),(9,.v),(10,J),(11,J)]
def B8 (c:Y k2):Y k5:=fun d e f g h a b H=>
  A 125 [(I f),(I g)] H (fun i j=>asI .i64 i (fun k=>B7 P c d e k h a b j))
abbrev k6:Sk:=[(0,.v),(1,.v),(5,J),(6,J),(9,.v),(10,J),(11,J)]
def B9 (d:Y k2):Y k6:=fun e c f g h a b H=>
  idxK c f 1 (fun i j=>li H i j (fun k=>B8 P d e c g k h a b H))
def B10 (a:Y k2):Y k0:=fun H=>
  P (I 1) H
def B11 (c:Y k2):Y k6:=fun f d e g h a b H=>
  lenK d (fun i=>pif (decide ((e:Int)≥(i:Int))) (B10 P c H) (B9 P c f d e g h a b H))
def B12 (d:Y k2):Y k2:=fun e f c b a H=>
  idxK c a 1 (fun g h=>li H g h (fun i=>B11 P d e f a i c b a H))
def B13 (e:Y k2):Y k2:=fun c d f a b H=>
  pif (decide ((b:Int)<a)) (B12 P e c d f a b H) (B3 P c d H)
def L4:Y k2:=fun n o p e f H=>
  ∃ (I:Y k2) (μ:NTy k2 (AHeap→Nat)),I n o p e f H∧∀ g h i a b G,I g h i a b G→B13 P (fun j k l c d m=>I j k l c d m∧μ j k l c d m<μ g h i a b G) g h i a b G
def B14:Y k1:=fun a b H=>
  lenK a (fun c=>L4 P a b a (c:Int) 0 H)
def B15:Y k1:=fun a b H=>
  B14 P a b H
theorem main:Z Tryz.f126 36 k1 (B15 P) P:=
  s (B14 P) (zBW (s (L4 P) (zBC (l (B13 P) (fun N4=>(zBW (b (cnd 12 (En 36 k2 (B12 P N4)) (En 36 k1 (B3 P)))) (zBW (zBN rfl zBS (zBT (fun _ _ h=>h))) (zBW (zBC (s (B11 P N4) (zBW (zBW (b (cnd 19 (En 36 k0 (B10 P N4)) (En 36 k6 (B9 P N4)))) (zBN rfl (e ()) zBS)) (s (B8 P N4) (s (B7 P N4) (zBW (b (cnd 28 (En 36 k3 (B6 P N4)) (En 36 k2 (B5 P N4)))) (zBN rfl (e ()) zBS))))))) (a N4)))))))) (zBW (zBW (b (cnd 35 (En 36 k0 (B2 P)) (En 36 k0 (B1 P)))) (zBN rfl (e ()) zBS)) (e ())))
theorem ac (a b:Value) (H:AHeap) (h:B15 P a b H):A 126 [a,b] H P:=
  fn Tryz.func126 (main P) h
end F126
namespace F127
variable (P:PT)
abbrev k0:Sk:=[]
def B1:Y k0:=fun H=>
  P (I 0) H
abbrev k1:Sk:=[(0,J),(1,.v),(5,J)]
def B3 (P:PT) (a:Y k1):Y k1:=fun b c d H=>
  a b c (i64.wrap (d+1)) H
def B4 (a:Y k1):Y k0:=fun H=>
  P (I 2) H
def B5 (d:Y k1):Y k1:=fun e b c H=>
  idxK b c 2 (fun o p=>li H o p (fun q=>A 81 [(I q),(I 0),(I (i64.wrap (e-1)))] H (fun r f=>asB r (fun s=>pif (!s) (B4 P d f) (idxK b c 2 (fun t u=>li f t (u+1) (fun v=>A 81 [(I v),(I 0),(I (i64.wrap (e-1)))] f (fun g a=>asB g (fun h=>pif (!h) (B4 P d a) (idxK b c 2 (fun i j=>li a i j (fun k=>idxK b c 2 (fun l m=>li a l (m+1) (fun n=>pif ((k:Int)==n) (B4 P d a) (B3 P d e b c a)))))))))))))))
def B6 (c:Y k1):Y k1:=fun d a b H=>
  lenK a (fun e=>pif (decide ((b:Int)<(e:Int))) (B5 P c d a b H) (B1 P H))
def L2:Y k1:=fun h i j H=>
  ∃ (I:Y k1) (μ:NTy k1 (AHeap→Nat)),I h i j H∧∀ a b c G,I a b c G→B6 P (fun d e f g=>I d e f g∧μ d e f g<μ a b c G) a b c G
abbrev k2:Sk:=[(0,J),(1,.v)]
def B7:Y k2:=fun a b H=>
  L2 P a b 0 H
def B8:Y k0:=fun H=>
  P (I 2) H
def B9:Y k2:=fun a c H=>
  A 81 [(I a),(I 2),(I 20)] H (fun d b=>asB d (fun e=>pif (!e) (B8 P b) (pif ((Int.tmod a 2:Int) != 0) (B8 P b) (lenK c (fun f=>pif (((f:Int):Int) != (i64.wrap (Int.tdiv (i64.wrap (3*a)) 2))) (B8 P b) (B7 P a c b))))))
def B10:Y k2:=fun a b H=>
  B9 P a b H
theorem main:Z Tryz.f127 61 k2 (B10 P) P:=
  s (B9 P) (zBW (zBW (b (cnd 21 (En 61 k0 (B8 P)) (En 61 k2 (B7 P)))) (zBN rfl (e ()) zBS)) (zBW (s (L2 P) (zBC (l (B6 P) (fun N2=>(zBW (zBW (b (cnd 25 (En 61 k1 (B5 P N2)) (En 61 k0 (B1 P)))) (zBN rfl zBS (zBT (fun _ _ h=>h)))) (zBW (zBC (zBW (d (tf 33) (cnd 60 (En 61 k0 (B4 P N2)) (En 61 k1 (B3 P N2)))) (zBN rfl (e ()) zBS))) (a N2))))))) (e ())))
theorem ac (a:Int) (b:Value) (H:AHeap) (h:B10 P a b H):A 127 [(I a),b] H P:=
  fn Tryz.func127 (main P) h
end F127
namespace F128
variable (P:PT)
abbrev k0:Sk:=[]
def B1:Y k0:=fun H=>
  P (bool true) H
abbrev k1:Sk:=[(0,J),(5,.v),(7,J)]
def B3 (P:PT) (a:Y k1):Y k1:=fun b c d H=>
  a b c (i64.wrap (d+1)) H
def B4 (a:Y k1):Y k0:=fun H=>
  P (bool false) H
def B5 (a:Y k1):Y k1:=fun d b c H=>
  idxK b c 1 (fun e f=>li H e f (fun g=>pif ((g:Int) != 3) (B4 P a H) (B3 P a d b c H)))
def B6 (c:Y k1):Y k1:=fun a d b H=>
  pif (decide ((b:Int)<a)) (B5 P c a d b H) (B1 P H)
def L2:Y k1:=fun h i j H=>
  ∃ (I:Y k1) (μ:NTy k1 (AHeap→Nat)),I h i j H∧∀ a b c G,I a b c G→B6 P (fun d e f g=>I d e f g∧μ d e f g<μ a b c G) a b c G
abbrev k2:Sk:=[(0,J),(5,.v)]
def B7:Y k2:=fun a b H=>
  L2 P a b 0 H
abbrev k3:Sk:=[(0,J),(1,.v),(5,.v),(6,J)]
def B9 (P:PT) (a:Y k3):Y k3:=fun b c d e H=>
  a b c d (i64.wrap (e+1)) H
def B10 (e:Y k3):Y k3:=fun f b a c H=>
  idxK b c 2 (fun g h=>li H g (h+1) (fun d=>idxK a d 1 (fun i j=>li H i j (fun k=>idxK a d 1 (fun l m=>stK H l m [(I (i64.wrap (k+1)))] (fun n=>B9 P e f b a c n))))))
def B11 (e:Y k3):Y k3:=fun f b a c H=>
  idxK b c 2 (fun g h=>li H g h (fun d=>idxK a d 1 (fun i j=>li H i j (fun k=>idxK a d 1 (fun l m=>stK H l m [(I (i64.wrap (k+1)))] (fun n=>B10 P e f b a c n))))))
def B12 (e:Y k3):Y k3:=fun a b c d H=>
  lenK b (fun f=>pif (decide ((d:Int)<(f:Int))) (B11 P e a b c d H) (B7 P a c H))
def L8:Y k3:=fun j k l m H=>
  ∃ (I:Y k3) (μ:NTy k3 (AHeap→Nat)),I j k l m H∧∀ a b c d G,I a b c d G→B12 P (fun e f g h i=>I e f g h i∧μ e f g h i<μ a b c d G) a b c d G
abbrev k4:Sk:=[(0,J),(1,.v),(5,.v)]
def B13:Y k4:=fun a b c H=>
  L8 P a b c 0 H
abbrev k5:Sk:=[(0,J),(1,.v)]
def B14:Y k5:=fun a b H=>
  mkR H 8 2 [(I 0)] a a (fun c d=>B13 P a b c d)
def B15:Y k5:=fun a b H=>
  B14 P a b H
theorem main:Z Tryz.f128 46 k5 (B15 P) P:=
  s (B14 P) (s (B13 P) (zBW (s (L8 P) (zBC (l (B12 P) (fun N8=>(zBW (zBW (b (cnd 13 (En 46 k3 (B11 P N8)) (En 46 k2 (B7 P)))) (zBN rfl zBS (zBT (fun _ _ h=>h)))) (zBW (zBC (s (B10 P N8) (a (B9 P N8)))) (a N8))))))) (zBW (s (L2 P) (zBC (l (B6 P) (fun N2=>(zBW (zBW (b (cnd 38 (En 46 k1 (B5 P N2)) (En 46 k0 (B1 P)))) (zBN rfl zBS (zBT (fun _ _ h=>h)))) (zBW (zBC (zBW (b (cnd 45 (En 46 k0 (B4 P N2)) (En 46 k1 (B3 P N2)))) (zBN rfl (e ()) zBS))) (a N2))))))) (e ()))))
theorem ac (a:Int) (b:Value) (H:AHeap) (h:B15 P a b H):A 128 [(I a),b] H P:=
  fn Tryz.func128 (main P) h
end F128
namespace F129
variable (P:PT)
abbrev k0:Sk:=[(2,.x),(3,.x)]
def B1:Y k0:=fun a b H=>
  li H a 0 (fun c=>li H b 0 (fun d=>pif (decide ((c:Int)<d)) (P (bool true) H) (li H a 0 (fun e=>li H b 0 (fun f=>pif ((e:Int)==f) (li H a 1 (fun g=>li H b 1 (fun h=>P (bool (decide ((g:Int)<h))) H))) (P (bool false) H))))))
abbrev k1:Sk:=[(0,.g [.i,.i]),(1,.g [.i,.i])]
def B2:Y k1:=fun a b c d H=>
  newK H [(I a),(I b)] 66 (fun e f=>newK f [(I c),(I d)] 66 (fun g h=>B1 P e g h))
theorem main:Z Tryz.f129 24 k1 (B2 P) P:=
  s (B1 P) (e ())
theorem ac (a b c d:Int) (H:AHeap) (h:B2 P a b c d H):A 129 [(agg ⟨[(I a),(I b)]⟩),(agg ⟨[(I c),(I d)]⟩)] H P:=
  fn Tryz.func129 (main P) h
end F129
namespace F132
variable (P:PT)
abbrev k0:Sk:=[(7,.v)]
def B1:Y k0:=fun a H=>
  P a H
abbrev k1:Sk:=[(7,.v),(8,J)]
def B3 (P:PT) (c:Y k1):Y k1:=fun a b H=>
  sliceK H 2 a (some (I b)) none 1 (fun d=>sliceK H 2 a none (some (I b)) 1 (fun e=>cpK T0 2 H d e (fun f g=>c a (i64.wrap (b+(f:Int))) g)))
def B4 (c:Y k1):Y k1:=fun a b H=>
  lenK a (fun d=>pif (decide ((b:Int)<(d:Int))) (B3 P c a b H) (B1 P a H))
def L2:Y k1:=fun f g H=>
  ∃ (I:Y k1) (μ:NTy k1 (AHeap→Nat)),I f g H∧∀ a b G,I a b G→B4 P (fun c d e=>I c d e∧μ c d e<μ a b G) a b G
abbrev k2:Sk:=[(0,.v),(7,.v)]
def B5:Y k2:=fun b a H=>
  cpK T0 2 H a b (fun c d=>L2 P a (c:Int) d)
abbrev k3:Sk:=[(0,.v),(6,.i .u64)]
def B6:Y k3:=fun b a H=>
  mkR H 8 2 [(I 0)] (i64.wrap a) (i64.wrap a) (fun c d=>B5 P b c d)
abbrev k4:Sk:=[(0,.v),(5,.i .u64),(6,.i .u64)]
def B7:Y k4:=fun b c a H=>
  pif (decide ((c:Int)>0)) (False) (pif (decide ((a:Int)>9223372036854775807)) (False) (B6 P b a H))
abbrev k5:Sk:=[(0,.v),(1,J)]
def B8:Y k5:=fun a b H=>
  lenK a (fun c=>A 182 [(int .u64 (u64.wrap (c:Int))),(int .u64 (u64.wrap b))] H (fun d e=>tup2 d (fun f g=>asI .u64 f (fun h=>asI .u64 g (fun i=>B7 P a h i e)))))
def B9:Y k5:=fun b a H=>
  pif (decide ((a:Int)<0)) (False) (B8 P b a H)
def B10:Y k5:=fun a b H=>
  B9 P a b H
theorem main:Z Tryz.f132 48 k5 (B10 P) P:=
  s (B9 P) (zBW (zBW (b (cnd 10 (fun _ _=>False) (En 48 k5 (B8 P)))) (zBN rfl zBJ zBS)) (s (B7 P) (zBW (zBW (b (cnd 26 (fun _ _=>False) (En 48 k3 (B6 P)))) (zBN rfl zBJ zBS)) (s (B5 P) (s (L2 P) (zBW (zBC (l (B4 P) (fun N2=>(zBW (zBW (b (cnd 37 (En 48 k1 (B3 P N2)) (En 48 k0 (B1 P)))) (zBN rfl zBS (zBT (fun _ _ h=>h)))) (zBC (d (tf 10) (En 48 k1 N2))))))) (e ())))))))
theorem ac (a:Value) (b:Int) (H:AHeap) (h:B10 P a b H):A 132 [a,(I b)] H P:=
  fn Tryz.func132 (main P) h
end F132
namespace F133
variable (P:PT)
abbrev k0:Sk:=[(1,J),(2,.x)]
def B1:Y k0:=fun b a H=>
  li H a 0 (fun c=>li H a 1 (fun d=>P (I (i64.wrap ((i64.wrap (c+d))-b))) H))
abbrev k1:Sk:=[(0,.g [.i,.i]),(1,J)]
def B2:Y k1:=fun a b c H=>
  newK H [(I a),(I b)] 66 (fun d e=>B1 P c d e)
theorem main:Z Tryz.f133 12 k1 (B2 P) P:=
  s (B1 P) (e ())
theorem ac (a b c:Int) (H:AHeap) (h:B2 P a b c H):A 133 [(agg ⟨[(I a),(I b)]⟩),(I c)] H P:=
  fn Tryz.func133 (main P) h
end F133
namespace F134
variable (P:PT)
abbrev k0:Sk:=[(8,.v),(9,J)]
def B1:Y k0:=fun a b H=>
  P (tuple ⟨[a,(bool (decide ((b:Int)>0)))]⟩) H
abbrev k1:Sk:=[(1,J),(2,J),(3,.x),(8,.v)]
def B2:Y k1:=fun w x b e H=>
  li H b 0 (fun f=>ld1 H b 1 (fun g=>li H b 0 (fun d=>li H b 0 (fun y=>ld1 H b 1 (fun z=>(mkR H 8 2 [(I 0)] d d (fun C D=>A 184 [(agg ⟨[(I y),z]⟩)] D (fun F c=>(li c b 0 (fun h=>ld1 c b 1 (fun i=>((agg ⟨[(I h),i]⟩)=(agg ⟨[(I f),g]⟩))∧(c=c))))∧((li c b 0 (fun j=>((I j)=(I d))∧(c=c)))∧(A 183 [(agg ⟨[(I f),g]⟩),(I w),(I x),e,C,F,(I 0),(bool false)] c (fun k l=>asI .i64 k (fun m=>B1 P e m l)))))))∧(A 184 [(agg ⟨[(I y),z]⟩)] H (fun n a=>(li a b 0 (fun o=>ld1 a b 1 (fun p=>((agg ⟨[(I o),p]⟩)=(agg ⟨[(I f),g]⟩))∧(a=a))))∧((li a b 0 (fun q=>((I q)=(I d))∧(a=a)))∧(mkR a 8 2 [(I 0)] d d (fun r s=>A 183 [(agg ⟨[(I f),g]⟩),(I w),(I x),e,r,n,(I 0),(bool false)] s (fun t u=>asI .i64 t (fun v=>B1 P e v u))))))))))))
abbrev k2:Sk:=[(1,J),(2,J),(3,.x)]
def B3:Y k2:=fun c d a H=>
  ld1 H a 1 (fun e=>lenK e (fun b=>mkR H 8 2 [(I 0)] (b:Int) (b:Int) (fun f g=>B2 P c d a f g)))
abbrev k3:Sk:=[(0,.g [.i,.v]),(1,J),(2,J)]
def B4:Y k3:=fun a b c d H=>
  newK H [(I a),b] 26 (fun e f=>B3 P c d e f)
theorem main:Z Tryz.f134 27 k3 (B4 P) P:=
  s (B3 P) (s (B2 P) (zBW (t (.op 0 [] (.op 1 [] (.op 2 [] (.op 3 [] (.op 4 [] (.op 5 [] (.op 7 [] (.alt (.op 6 [] (.op 8 [0,5] (.op 9 [] (.op 10 [] .done)))) (.op 8 [0,5] (.op 6 [] (.op 9 [] (.op 10 [] .done)))))))))))) (En 27 k0 (B1 P))) (e ())))
theorem ac (a:Int) (b:Value) (c d:Int) (H:AHeap) (h:B4 P a b c d H):A 134 [(agg ⟨[(I a),b]⟩),(I c),(I d)] H P:=
  fn Tryz.func134 (main P) h
end F134
namespace F135
variable (P:PT)
abbrev k0:Sk:=[(0,J),(1,.v),(2,.v)]
def B1:Y k0:=fun a b c H=>
  asP b (fun d e=>li H d e (fun f=>asP c (fun g h=>li H g h (fun i=>A 91 [(I a),(I f),(I i)] H (fun j k=>asB j (fun l=>P (bool l) k))))))
def B2:Y k0:=fun a b c H=>
  B1 P a b c H
theorem main:Z Tryz.f135 9 k0 (B2 P) P:=
  s (B1 P) (e ())
theorem ac (a:Int) (b c:Value) (H:AHeap) (h:B2 P a b c H):A 135 [(I a),b,c] H P:=
  fn Tryz.func135 (main P) h
end F135
namespace F136
variable (P:PT)
abbrev k0:Sk:=[(0,J)]
def B1:Y k0:=fun a H=>
  A 91 [(I a),(I 0),(I 2)] H (fun b c=>asB b (fun d=>P (bool d) c))
def B2:Y k0:=fun a H=>
  B1 P a H
theorem main:Z Tryz.f136 5 k0 (B2 P) P:=
  s (B1 P) (e ())
theorem ac (a:Int) (H:AHeap) (h:B2 P a H):A 136 [(I a)] H P:=
  fn Tryz.func136 (main P) h
end F136
namespace F137
variable (P:PT)
abbrev k0:Sk:=[(0,.v),(3,.x)]
def B1:Y k0:=fun a b H=>
  A 185 [a,(func (.func 186) ⟨[]⟩ ⟨[(pointer (some ⟨b,0,none⟩))]⟩)] H (fun c d=>asB c (fun e=>P (bool (!e)) d))
abbrev k1:Sk:=[(0,.v),(1,.v)]
def B2:Y k1:=fun b a H=>
  pif (Value.oneCell' a) (newK H [a] 88 (fun c d=>B1 P b c d)) False
theorem main:Z Tryz.f137 9 k1 (B2 P) P:=
  s (B1 P) (e ())
theorem ac (a b:Value) (H:AHeap) (h:B2 P a b H):A 137 [a,b] H P:=
  fn Tryz.func137 (main P) h
end F137
namespace F138
variable (P:PT)
abbrev k0:Sk:=[(0,.v),(1,.v)]
def B1:Y k0:=fun a b H=>
  asP b (fun c d=>ld1 H c (d+1) (fun e=>A 55 [e] H (fun f g=>asI .i64 f (fun h=>A 54 [a,(I h)] g (fun i j=>asB i (fun k=>P (bool k) j))))))
def B2:Y k0:=fun a b H=>
  B1 P a b H
theorem main:Z Tryz.f138 9 k0 (B2 P) P:=
  s (B1 P) (e ())
theorem ac (a b:Value) (H:AHeap) (h:B2 P a b H):A 138 [a,b] H P:=
  fn Tryz.func138 (main P) h
end F138
namespace F139
variable (P:PT)
abbrev k0:Sk:=[(0,.v),(3,.x)]
def B1:Y k0:=fun a b H=>
  A 187 [a,(func (.func 188) ⟨[]⟩ ⟨[(pointer (some ⟨b,0,none⟩))]⟩)] H (fun c d=>asB c (fun e=>P (bool (!e)) d))
abbrev k1:Sk:=[(0,.v),(1,.v)]
def B2:Y k1:=fun b a H=>
  pif (Value.oneCell' a) (newK H [a] 148 (fun c d=>B1 P b c d)) False
theorem main:Z Tryz.f139 9 k1 (B2 P) P:=
  s (B1 P) (e ())
theorem ac (a b:Value) (H:AHeap) (h:B2 P a b H):A 139 [a,b] H P:=
  fn Tryz.func139 (main P) h
end F139
namespace F140
variable (P:PT)
abbrev k0:Sk:=[(0,J)]
def B1:Y k0:=fun a H=>
  P (bool ((a:Int)==2)) H
def B2:Y k0:=fun a H=>
  B1 P a H
theorem main:Z Tryz.f140 5 k0 (B2 P) P:=
  s (B1 P) (e ())
theorem ac (a:Int) (H:AHeap) (h:B2 P a H):A 140 [(I a)] H P:=
  fn Tryz.func140 (main P) h
end F140
namespace F141
variable (P:PT)
abbrev k0:Sk:=[(3,.v)]
def B1:Y k0:=fun a H=>
  P a H
abbrev k1:Sk:=[(1,.x),(3,.v),(11,.v),(12,J),(13,J)]
def B3 (P:PT) (d:Y k1):Y k1:=fun e f a b c H=>
  d e f a b (i64.wrap (c+1)) H
abbrev k2:Sk:=[(1,.x),(3,.v),(7,.v),(11,.v),(12,J),(13,J)]
def B4 (e:Y k1):Y k2:=fun f g d a b c H=>
  pif (Value.oneCell' d) (newK H [d] 27 (fun h i=>apK T0 27 i g (slice (some ⟨h,0,none⟩) 1 (1+1)) (fun j k=>B3 P e f j a b c k))) False
abbrev k3:Sk:=[(1,.x),(3,.v),(6,.i .u64),(7,.v),(11,.v),(12,J),(13,J),(20,.v),(21,J),(22,J)]
def B6 (P:PT) (l:Y k1) (g:Y k3):Y k3:=fun h i j k a b c d e f H=>
  g h i j k a b c d e (i64.wrap (f+1)) H
abbrev k4:Sk:=[(1,.x),(3,.v),(6,.i .u64),(7,.v),(8,J),(11,.v),(12,J),(13,J),(20,.v),(21,J),(22,J)]
def B7 (g:Y k1) (h:Y k3):Y k4:=fun i j k l m a b c d e f H=>
  newK H [(I m)] 2 (fun n o=>apK T0 2 o l (slice (some ⟨n,0,none⟩) 1 (1+1)) (fun p q=>B6 P g h i j k p a b c d e f q))
abbrev k5:Sk:=[(1,.x),(3,.v),(6,.i .u64),(7,.v),(8,J),(9,.x),(11,.v),(12,J),(13,J),(20,.v),(21,J),(22,J)]
def B8 (h:Y k1) (i:Y k3):Y k5:=fun j k g l n o a b c d e f H=>
  li H o 0 (fun p=>A 110 [(int .u64 g),(I p)] H (fun q m=>asB q (fun r=>pif r (B7 P h i j k g l n a b c d e f m) (B6 P h i j k g l a b c d e f m))))
def B9 (j:Y k1) (k:Y k3):Y k3:=fun l m n o c d e b f a H=>
  idxK b a 2 (fun g h=>li H g h (fun p=>li H g (h+1) (fun q=>newK H [(I 0),(I 0)] 66 (fun i r=>stK r i 0 [(I p),(I q)] (fun s=>B8 P j k l m n o a i c d e b f a s)))))
def B10 (g:Y k1) (k:Y k3):Y k3:=fun h i l j a b c f d e H=>
  pif (decide ((e:Int)<d)) (B9 P g k h i l j a b c f d e H) (B4 P g h i j a b c H)
def L5 (D:Y k1):Y k3:=fun F K L Q m n o p q r H=>
  ∃ (I:Y k3) (μ:NTy k3 (AHeap→Nat)),I F K L Q m n o p q r H∧∀ s t u v a b c d e f G,I s t u v a b c d e f G→B10 P D (fun w x y z g h i j k l C=>I w x y z g h i j k l C∧μ w x y z g h i j k l C<μ s t u v a b c d e f G) s t u v a b c d e f G
abbrev k6:Sk:=[(1,.x),(3,.v),(6,.i .u64),(7,.v),(11,.v),(12,J),(13,J)]
def B11 (f:Y k1):Y k6:=fun d g h i a b c H=>
  ld1 H d 1 (fun e=>lenK e (fun j=>L5 P f d g h i a b c e (j:Int) 0 H))
abbrev k7:Sk:=[(1,.x),(3,.v),(6,.i .u64),(11,.v),(12,J),(13,J)]
def B12 (d:Y k1):Y k7:=fun e f g a b c H=>
  B11 P d e f g (slice none 0 0) a b c H
abbrev k8:Sk:=[(1,.x),(3,.v),(5,.v),(11,.v),(12,J),(13,J)]
def B13 (d:Y k1):Y k8:=fun e f g a b c H=>
  A 46 [g] H (fun h i=>asI .u64 h (fun j=>B12 P d e f j a b c i))
def B14 (d:Y k1):Y k1:=fun e f a c b H=>
  idxK a b 1 (fun g h=>ld1 H g h (fun i=>B13 P d e f i a c b H))
def B15 (e:Y k1):Y k1:=fun f d c a b H=>
  pif (decide ((b:Int)<a)) (B14 P e f d c a b H) (B1 P d H)
def L2:Y k1:=fun o p g h i H=>
  ∃ (I:Y k1) (μ:NTy k1 (AHeap→Nat)),I o p g h i H∧∀ j k a b c G,I j k a b c G→B15 P (fun l m d e f n=>I l m d e f n∧μ l m d e f n<μ j k a b c G) j k a b c G
abbrev k9:Sk:=[(1,.x),(3,.v)]
def B16:Y k9:=fun a c H=>
  li H a 0 (fun d=>ld1 H a 1 (fun e=>A 155 [(agg ⟨[(I d),e]⟩),(int .u64 0)] H (fun b f=>lenK b (fun g=>L2 P a c b (g:Int) 0 f))))
abbrev k10:Sk:=[(1,.x)]
def B17:Y k10:=fun a H=>
  B16 P a (slice none 0 0) H
abbrev k11:Sk:=[(0,.g [.i,.v])]
def B18:Y k11:=fun a b H=>
  newK H [(I a),b] 26 (fun c d=>B17 P c d)
theorem main:Z Tryz.f141 42 k11 (B18 P) P:=
  s (B17 P) (s (B16 P) (zBW (s (L2 P) (zBC (l (B15 P) (fun N2=>(zBW (b (cnd 14 (En 42 k1 (B14 P N2)) (En 42 k0 (B1 P)))) (zBW (zBN rfl zBS (zBT (fun _ _ h=>h))) (zBW (zBC (s (B13 P N2) (s (B12 P N2) (s (B11 P N2) (zBW (s (L5 P N2) (zBC (l (B10 P N2) (fun N5=>(zBW (b (cnd 23 (En 42 k3 (B9 P N2 N5)) (En 42 k2 (B4 P N2)))) (zBW (zBN rfl zBS (zBT (fun _ _ h=>h))) (zBW (zBC (s (B8 P N2 N5) (zBW (b (cnd 30 (En 42 k4 (B7 P N2 N5)) (En 42 k3 (B6 P N2 N5)))) (zBN rfl (a (B6 P N2 N5)) zBS)))) (a N5)))))))) (a (B3 P N2))))))) (a N2)))))))) (e ())))
theorem ac (a:Int) (b:Value) (H:AHeap) (h:B18 P a b H):A 141 [(agg ⟨[(I a),b]⟩)] H P:=
  fn Tryz.func141 (main P) h
end F141
namespace F142
variable (P:PT)
abbrev k0:Sk:=[(12,.x)]
def B1:Y k0:=fun a H=>
  ld1 H a 0 (fun b=>callV Tryz.prog T0 b [(I 0)] H (fun c d=>asB c (fun e=>P (bool e) d)))
abbrev k1:Sk:=[(4,.x),(5,.x),(6,.x),(7,.x),(9,.x),(10,.x),(11,.x),(12,.x)]
def B2:Y k1:=fun d e f g h b c a H=>
  stK H a 0 [(func (.func 189) ⟨[]⟩ ⟨[(pointer (some ⟨f,0,none⟩)),(pointer (some ⟨g,0,none⟩)),(pointer (some ⟨h,0,none⟩)),(pointer (some ⟨d,0,none⟩)),(pointer (some ⟨b,0,none⟩)),(pointer (some ⟨c,0,none⟩)),(pointer (some ⟨e,0,none⟩)),(pointer (some ⟨a,0,none⟩))]⟩)] (fun i=>B1 P a i)
abbrev k2:Sk:=[(4,.x),(5,.x),(6,.x),(7,.x),(9,.x),(10,.x),(11,.x)]
def B3:Y k2:=fun c d e f g a b H=>
  newK H [Value.nilFunc] 148 (fun h i=>B2 P c d e f g a b h i)
def D5 (f g h i j:Nat) (b:Nat) (a:Nat) (k:Int) (l:Value) (m:Nat) (n:Int) (e:Value) (c:AHeap):Prop:=
  pif (Value.oneCell' e) (stK c a 0 [e] (fun d=>B3 P f g h i j b a d)) False
def D6 (f g h i j:Nat) (a:Nat) (b:Nat) (k:Int) (c:Value) (l:Nat) (m:Int) (n:Value) (d:AHeap):Prop:=
  pif (Value.oneCell' c) (stK d a 0 [c] (fun e=>D5 P f g h i j a b k c l m n e)) False
def D7 (e f g h i:Nat) (a:Nat) (j:Int) (k:Value) (l:Nat) (m:Int) (n:Value) (b:AHeap):Prop:=
  newK b [(slice none 0 0)] 27 (fun c d=>D6 P e f g h i a c j k l m n d)
def D8 (e f g h i:Nat) (a:Nat) (j:Int) (k:Value) (l:Nat) (m:Int) (n:Value) (b:AHeap):Prop:=
  newK b [(slice none 0 0)] 27 (fun c d=>D6 P e f g h i c a j k l m n d)
def D9 (e f g h i:Nat) (j:Int) (k:Value) (l:Nat) (m:Int) (n:Value) (o:AHeap):Prop:=
  (newK o [(slice none 0 0)] 27 (fun a b=>D7 P e f g h i a j k l m n b))∧(newK o [(slice none 0 0)] 27 (fun c d=>D8 P e f g h i c j k l m n d))
def D10 (g k l m n:Nat) (b:Nat) (c:Nat) (h:Int) (o:Value) (i:Nat) (j:Int) (d:AHeap):Prop:=
  A 132 [(slice (some ⟨i,0,none⟩) 1 (1+1)),(I j)] d (fun e a=>(li a g 0 (fun f=>((I f)=(I h))∧(a=a)))∧(D6 P g k l m n b c h o i j e a))
def D11 (d l m n o:Nat) (b:Nat) (e:Int) (p:Value) (f:Nat) (g:Int) (c:AHeap):Prop:=
  (A 132 [(slice (some ⟨f,0,none⟩) 1 (1+1)),(I g)] c (fun h a=>(li a d 0 (fun i=>((I i)=(I e))∧(a=a)))∧(D7 P d l m n o b e p f g h a)))∧(newK c [(slice none 0 0)] 27 (fun j k=>D10 P d l m n o b j e p f g k))
def D12 (d l m n o:Nat) (b:Nat) (e:Int) (p:Value) (f:Nat) (g:Int) (c:AHeap):Prop:=
  (A 132 [(slice (some ⟨f,0,none⟩) 1 (1+1)),(I g)] c (fun h a=>(li a d 0 (fun i=>((I i)=(I e))∧(a=a)))∧(D8 P d l m n o b e p f g h a)))∧(newK c [(slice none 0 0)] 27 (fun j k=>D10 P d l m n o j b e p f g k))
def D13 (a f g h i:Nat) (b:Int) (j:Value) (c:Nat) (d:Int) (k:AHeap):Prop:=
  (A 132 [(slice (some ⟨c,0,none⟩) 1 (1+1)),(I d)] k (fun q e=>(li e a 0 (fun l=>((I l)=(I b))∧(e=e)))∧(D9 P a f g h i b j c d q e)))∧((newK k [(slice none 0 0)] 27 (fun m n=>D11 P a f g h i m b j c d n))∧(newK k [(slice none 0 0)] 27 (fun o p=>D12 P a f g h i o b j c d p)))
def D14 (f g h i j:Nat) (a:Nat) (b:Nat) (k:Int) (l:Value) (m:Int) (c:AHeap):Prop:=
  newK c [(I 3)] 2 (fun d e=>D10 P f g h i j a b k l d m e)
def D15 (g h i j k:Nat) (a:Nat) (l:Int) (m:Value) (n:Int) (b:AHeap):Prop:=
  (newK b [(I 3)] 2 (fun c d=>D11 P g h i j k a l m c n d))∧(newK b [(slice none 0 0)] 27 (fun e f=>D14 P g h i j k a e l m n f))
def D16 (g h i j k:Nat) (a:Nat) (l:Int) (m:Value) (n:Int) (b:AHeap):Prop:=
  (newK b [(I 3)] 2 (fun c d=>D12 P g h i j k a l m c n d))∧(newK b [(slice none 0 0)] 27 (fun e f=>D14 P g h i j k e a l m n f))
def D17 (a b c d e:Nat) (f:Int) (g:Value) (h:Int) (i:AHeap):Prop:=
  (newK i [(I 3)] 2 (fun n o=>D13 P a b c d e f g n h o))∧((newK i [(slice none 0 0)] 27 (fun j k=>D15 P a b c d e j f g h k))∧(newK i [(slice none 0 0)] 27 (fun l m=>D16 P a b c d e l f g h m)))
def D18 (i j k l m:Nat) (a:Nat) (b:Nat) (c:Int) (d:Nat) (n:Int) (e:Value) (f:AHeap):Prop:=
  mkR f 8 2 [(I 0)] c c (fun g h=>D6 P i j k l m a b c g d n e h)
def D19 (j k l m n:Nat) (a:Nat) (e:Int) (b:Nat) (o:Int) (c:Value) (d:AHeap):Prop:=
  (mkR d 8 2 [(I 0)] e e (fun f g=>D7 P j k l m n a e f b o c g))∧(newK d [(slice none 0 0)] 27 (fun h i=>D18 P j k l m n a h e b o c i))
def D20 (j k l m n:Nat) (a:Nat) (e:Int) (b:Nat) (o:Int) (c:Value) (d:AHeap):Prop:=
  (mkR d 8 2 [(I 0)] e e (fun f g=>D8 P j k l m n a e f b o c g))∧(newK d [(slice none 0 0)] 27 (fun h i=>D18 P j k l m n h a e b o c i))
def D21 (e f g h i:Nat) (d:Int) (a:Nat) (j:Int) (b:Value) (c:AHeap):Prop:=
  (mkR c 8 2 [(I 0)] d d (fun k l=>D9 P e f g h i d k a j b l))∧((newK c [(slice none 0 0)] 27 (fun m n=>D19 P e f g h i m d a j b n))∧(newK c [(slice none 0 0)] 27 (fun o p=>D20 P e f g h i o d a j b p)))
def D22 (g m n o p:Nat) (c:Nat) (d:Nat) (e:Int) (b:Nat) (h:Int) (f:AHeap):Prop:=
  (mkR f 8 2 [(I 0)] e e (fun i j=>D10 P g m n o p c d e i b h j))∧(A 132 [(slice (some ⟨b,0,none⟩) 1 (1+1)),(I h)] f (fun k a=>(li a g 0 (fun l=>((I l)=(I e))∧(a=a)))∧(D18 P g m n o p c d e b h k a)))
def D23 (f h i j k:Nat) (c:Nat) (e:Int) (a:Nat) (g:Int) (d:AHeap):Prop:=
  (mkR d 8 2 [(I 0)] e e (fun l m=>D11 P f h i j k c e l a g m))∧((A 132 [(slice (some ⟨a,0,none⟩) 1 (1+1)),(I g)] d (fun n b=>(li b f 0 (fun o=>((I o)=(I e))∧(b=b)))∧(D19 P f h i j k c e a g n b)))∧(newK d [(slice none 0 0)] 27 (fun p q=>D22 P f h i j k c p e a g q)))
def D24 (i k l m n:Nat) (c:Nat) (e:Int) (b:Nat) (j:Int) (d:AHeap):Prop:=
  (mkR d 8 2 [(I 0)] e e (fun o p=>D12 P i k l m n c e o b j p))∧((A 132 [(slice (some ⟨b,0,none⟩) 1 (1+1)),(I j)] d (fun q a=>(li a i 0 (fun f=>((I f)=(I e))∧(a=a)))∧(D20 P i k l m n c e b j q a)))∧(newK d [(slice none 0 0)] 27 (fun g h=>D22 P i k l m n g c e b j h)))
def D25 (e g h i j:Nat) (d:Int) (a:Nat) (f:Int) (b:AHeap):Prop:=
  (mkR b 8 2 [(I 0)] d d (fun k l=>D13 P e g h i j d k a f l))∧((A 132 [(slice (some ⟨a,0,none⟩) 1 (1+1)),(I f)] b (fun m c=>(li c e 0 (fun n=>((I n)=(I d))∧(c=c)))∧(D21 P e g h i j d a f m c)))∧((newK b [(slice none 0 0)] 27 (fun o p=>D23 P e g h i j o d a f p))∧(newK b [(slice none 0 0)] 27 (fun q r=>D24 P e g h i j q d a f r))))
def D26 (i j k l m:Nat) (a:Nat) (b:Nat) (h:Int) (n:Int) (c:AHeap):Prop:=
  (mkR c 8 2 [(I 0)] h h (fun d e=>D14 P i j k l m a b h d n e))∧(newK c [(I 3)] 2 (fun f g=>D22 P i j k l m a b h f n g))
def D27 (j k l m n:Nat) (a:Nat) (c:Int) (o:Int) (b:AHeap):Prop:=
  (mkR b 8 2 [(I 0)] c c (fun d e=>D15 P j k l m n a c d o e))∧((newK b [(I 3)] 2 (fun f g=>D23 P j k l m n a c f o g))∧(newK b [(slice none 0 0)] 27 (fun h i=>D26 P j k l m n a h c o i)))
def D28 (j k l m n:Nat) (a:Nat) (c:Int) (o:Int) (b:AHeap):Prop:=
  (mkR b 8 2 [(I 0)] c c (fun d e=>D16 P j k l m n a c d o e))∧((newK b [(I 3)] 2 (fun f g=>D24 P j k l m n a c f o g))∧(newK b [(slice none 0 0)] 27 (fun h i=>D26 P j k l m n h a c o i)))
def D29 (f g h i j:Nat) (a:Int) (k:Int) (H:AHeap):Prop:=
  (mkR H 8 2 [(I 0)] a a (fun n o=>D17 P f g h i j a n k o))∧((newK H [(I 3)] 2 (fun l m=>D25 P f g h i j a l k m))∧((newK H [(slice none 0 0)] 27 (fun b c=>D27 P f g h i j b a k c))∧(newK H [(slice none 0 0)] 27 (fun d e=>D28 P f g h i j d a k e))))
def D30 (a b c d e:Nat) (f:Int) (H:AHeap):Prop:=
  li H a 0 (fun g=>D29 P a b c d e f g H)
def D31 (a b c d e:Nat) (f:Int) (H:AHeap):Prop:=
  D30 P a b c d e f H
def D32 (a b c d e:Nat) (H:AHeap):Prop:=
  li H a 0 (fun f=>D31 P a b c d e f H)
abbrev k3:Sk:=[(4,.x),(5,.x),(6,.x),(7,.x),(9,.x)]
def B4:Y k3:=fun a b c d e H=>
  D32 P a b c d e  H
abbrev k4:Sk:=[(4,.x),(5,.x),(6,.x),(7,.x)]
def B33:Y k4:=fun a e f g H=>
  ld1 H a 1 (fun h=>lenK h (fun b=>mkR H 8 2 [(I 0)] (b:Int) (b:Int) (fun c i=>newK i [(slice none 0 0)] 27 (fun d j=>pif (Value.oneCell' c) (stK j d 0 [c] (fun k=>B4 P a e f g d k)) False))))
abbrev k5:Sk:=[(0,.g [.i,.v]),(1,.g [.v,.v,.v]),(2,.v),(3,.v)]
def B34:Y k5:=fun a b c d e f g H=>
  newK H [(I a),b] 26 (fun h i=>newK i [c,d,e] 96 (fun j k=>pif (Value.oneCell' f) (newK k [f] 27 (fun l m=>pif (Value.oneCell' g) (newK m [g] 88 (fun n o=>B33 P h j l n o)) False)) False))
theorem main:Z Tryz.f142 27 k5 (B34 P) P:=
  s (B33 P) (s (B4 P) (zBW (t (allS [[],[0],[1,1],[],[],[4],[3,5],[],[],[7,2,6,0,1,2,7,8],[8,6,9,0,1,2,3,4,5,6,7,8,9]] [false,false,true,true,false,false,true,true,true,true,true] [[],[],[],[],[],[],[1],[],[],[],[]] 11 []) (En 27 k2 (B3 P))) (s (B2 P) (s (B1 P) (e ())))))
theorem ac (a:Int) (b c d e f g:Value) (H:AHeap) (h:B34 P a b c d e f g H):A 142 [(agg ⟨[(I a),b]⟩),(agg ⟨[c,d,e]⟩),f,g] H P:=
  fn Tryz.func142 (main P) h
end F142
namespace F143
variable (P:PT)
abbrev k0:Sk:=[]
def B1:Y k0:=fun H=>
  P (bool false) H
abbrev k1:Sk:=[(1,.v)]
def B2:Y k1:=fun a H=>
  asP a (fun b c=>li H b c (fun d=>asP a (fun e f=>stK H e f [(I (i64.wrap (d+1)))] (fun g=>B1 P g))))
def B3:Y k1:=fun a H=>
  B2 P a H
theorem main:Z Tryz.f143 6 k1 (B3 P) P:=
  s (B2 P) (s (B1 P) (e ()))
theorem ac (b a:Value) (H:AHeap) (h:B3 P a H):A 143 [b,a] H P:=
  fn Tryz.func143 (main P) h
end F143
namespace F144
variable (P:PT)
abbrev k0:Sk:=[(5,.v)]
def B1:Y k0:=fun a H=>
  P a H
abbrev k1:Sk:=[(1,J),(5,.v),(6,J)]
def B3 (P:PT) (a:Y k1):Y k1:=fun b c d H=>
  a b c (i64.wrap (d+1)) H
def B4 (b:Y k1):Y k1:=fun c d a H=>
  newK H [(I a)] 2 (fun e f=>apK T0 2 f d (slice (some ⟨e,0,none⟩) 1 (1+1)) (fun g h=>B3 P b c g a h))
def B5 (b:Y k1):Y k1:=fun c d a H=>
  pif ((a:Int) != 0) (B4 P b c d a H) (B3 P b c d a H)
def B6 (d:Y k1):Y k1:=fun a b c H=>
  pif (decide ((c:Int)≤a)) (B5 P d a b c H) (B1 P b H)
def L2:Y k1:=fun h i j H=>
  ∃ (I:Y k1) (μ:NTy k1 (AHeap→Nat)),I h i j H∧∀ a b c G,I a b c G→B6 P (fun d e f g=>I d e f g∧μ d e f g<μ a b c G) a b c G
abbrev k2:Sk:=[(0,J),(1,J),(5,.v)]
def B7:Y k2:=fun a b c H=>
  L2 P b c a H
abbrev k3:Sk:=[(0,J),(1,J)]
def B8:Y k3:=fun a b H=>
  B7 P a b (slice none 0 0) H
def B9:Y k3:=fun a b H=>
  B8 P a b H
theorem main:Z Tryz.f144 20 k3 (B9 P) P:=
  s (B8 P) (s (B7 P) (zBW (s (L2 P) (zBC (l (B6 P) (fun N2=>(zBW (zBW (b (cnd 10 (En 20 k1 (B5 P N2)) (En 20 k0 (B1 P)))) (zBN rfl zBS (zBT (fun _ _ h=>h)))) (zBW (zBC (zBW (b (cnd 14 (En 20 k1 (B4 P N2)) (En 20 k1 (B3 P N2)))) (zBN rfl (a (B3 P N2)) zBS))) (a N2))))))) (e ())))
theorem ac (a b:Int) (H:AHeap) (h:B9 P a b H):A 144 [(I a),(I b)] H P:=
  fn Tryz.func144 (main P) h
end F144
namespace F145
variable (P:PT)
abbrev k0:Sk:=[(0,J),(1,J)]
def B1:Y k0:=fun a b H=>
  P (I (i64.wrap (BitVec.ofInt 64 a ^^^ BitVec.ofInt 64 b).toNat)) H
def B2:Y k0:=fun a b H=>
  B1 P a b H
theorem main:Z Tryz.f145 10 k0 (B2 P) P:=
  s (B1 P) (e ())
theorem ac (a b:Int) (c:Bool) (H:AHeap) (h:B2 P a b H):A 145 [(I a),(I b),(bool c)] H P:=
  fn Tryz.func145 (main P) h
end F145
namespace F146
variable (P:PT)
abbrev k0:Sk:=[(0,J),(1,J)]
def B1:Y k0:=fun b a H=>
  pif (decide ((a:Int)>1)) (P (bool true) H) (P (bool (((b:Int)==0)==((a:Int)==0))) H)
def B2:Y k0:=fun a b H=>
  B1 P a b H
theorem main:Z Tryz.f146 14 k0 (B2 P) P:=
  s (B1 P) (e ())
theorem ac (a b:Int) (H:AHeap) (h:B2 P a b H):A 146 [(I a),(I b)] H P:=
  fn Tryz.func146 (main P) h
end F146
namespace F147
variable (P:PT)
abbrev k0:Sk:=[(3,.v)]
def B1:Y k0:=fun a H=>
  P a H
abbrev k1:Sk:=[(0,.v),(3,.v),(4,J)]
def B3 (P:PT) (a:Y k1):Y k1:=fun b c d H=>
  a b c (i64.wrap (d+1)) H
abbrev k2:Sk:=[(0,.v),(3,.v),(4,J),(5,J)]
def B4 (d:Y k1):Y k2:=fun a b c e H=>
  idxK a c 1 (fun f g=>li H f g (fun h=>idxK b e 1 (fun i j=>stK H i j [(I h)] (fun k=>B3 P d a b c k))))
def B6 (P:PT) (f:Y k1) (a:Y k2):Y k2:=fun b c d e H=>
  a b c d (i64.wrap (e-1)) H
def B7 (c:Y k1) (d:Y k2):Y k2:=fun e a f b H=>
  idxK a (i64.wrap (b-1)) 1 (fun g h=>li H g h (fun i=>idxK a b 1 (fun j k=>stK H j k [(I i)] (fun l=>B6 P c d e a f b l))))
def B8 (e:Y k1) (f:Y k2):Y k2:=fun b c d a H=>
  pif (decide ((a:Int)>0)) (idxK c (i64.wrap (a-1)) 1 (fun g h=>li H g h (fun i=>idxK b d 1 (fun j k=>li H j k (fun l=>pif (decide ((i:Int)>l)) (B7 P e f b c d a H) (B4 P e b c d a H)))))) (B4 P e b c d a H)
def L5 (j:Y k1):Y k2:=fun k l m n H=>
  ∃ (I:Y k2) (μ:NTy k2 (AHeap→Nat)),I k l m n H∧∀ a b c d G,I a b c d G→B8 P j (fun e f g h i=>I e f g h i∧μ e f g h i<μ a b c d G) a b c d G
def B9 (c:Y k1):Y k2:=fun a d b e H=>
  idxK a b 1 (fun f g=>li H f g (fun h=>newK H [(I h)] 2 (fun i j=>apK T0 2 j d (slice (some ⟨i,0,none⟩) 1 (1+1)) (fun k l=>L5 P c a k b e l))))
def B10 (b:Y k1):Y k1:=fun c a d H=>
  lenK a (fun e=>B9 P b c a d (e:Int) H)
def B11 (d:Y k1):Y k1:=fun a b c H=>
  lenK a (fun e=>pif (decide ((c:Int)<(e:Int))) (B10 P d a b c H) (B1 P b H))
def L2:Y k1:=fun h i j H=>
  ∃ (I:Y k1) (μ:NTy k1 (AHeap→Nat)),I h i j H∧∀ a b c G,I a b c G→B11 P (fun d e f g=>I d e f g∧μ d e f g<μ a b c G) a b c G
abbrev k3:Sk:=[(0,.v),(3,.v)]
def B12:Y k3:=fun a b H=>
  L2 P a b 0 H
abbrev k4:Sk:=[(0,.v)]
def B13:Y k4:=fun a H=>
  newK H [] 2 (fun b c=>B12 P a (slice (some ⟨b,0,none⟩) 0 (0+1)) c)
def B14:Y k4:=fun a H=>
  B13 P a H
theorem main:Z Tryz.f147 54 k4 (B14 P) P:=
  s (B13 P) (s (B12 P) (zBW (s (L2 P) (zBC (l (B11 P) (fun N2=>(zBW (zBW (b (cnd 10 (En 54 k1 (B10 P N2)) (En 54 k0 (B1 P)))) (zBN rfl zBS (zBT (fun _ _ h=>h)))) (zBW (zBC (s (B9 P N2) (s (L5 P N2) (zBW (zBC (l (B8 P N2) (fun N5=>(zBW (zBW (d (tf 14) (cnd 35 (En 54 k2 (B7 P N2 N5)) (En 54 k2 (B4 P N2)))) (zBN rfl zBS (zBT (fun _ _ h=>h)))) (zBC (s (B6 P N2 N5) (a N5))))))) (a (B3 P N2)))))) (a N2))))))) (e ())))
theorem ac (a:Value) (H:AHeap) (h:B14 P a H):A 147 [a] H P:=
  fn Tryz.func147 (main P) h
end F147
namespace F148
variable (P:PT)
abbrev k0:Sk:=[(0,.v),(1,.v)]
def B1:Y k0:=fun a b H=>
  A 190 [a,b] H (fun c d=>asI .i64 c (fun e=>P (bool (decide ((e:Int)≥0))) d))
def B2:Y k0:=fun a b H=>
  B1 P a b H
theorem main:Z Tryz.f148 9 k0 (B2 P) P:=
  s (B1 P) (e ())
theorem ac (a b:Value) (H:AHeap) (h:B2 P a b H):A 148 [a,b] H P:=
  fn Tryz.func148 (main P) h
end F148
namespace F149
variable (P:PT)
abbrev k0:Sk:=[(0,J),(1,.v)]
def B1:Y k0:=fun a b H=>
  asP b (fun c d=>ld1 H c d (fun e=>callV Tryz.prog T0 e [(I a)] H (fun f g=>asB f (fun h=>P (bool (!h)) g))))
def B2:Y k0:=fun a b H=>
  B1 P a b H
theorem main:Z Tryz.f149 8 k0 (B2 P) P:=
  s (B1 P) (e ())
theorem ac (a:Int) (b:Value) (H:AHeap) (h:B2 P a b H):A 149 [(I a),b] H P:=
  fn Tryz.func149 (main P) h
end F149
namespace F150
variable (P:PT)
abbrev k0:Sk:=[(2,.x),(3,.x)]
def B1:Y k0:=fun a b H=>
  ld1 H a 1 (fun c=>li H b 0 (fun d=>idxK c d 2 (fun e f=>li H e (f+1) (fun g=>P (I g) H))))
def B2:Y k0:=fun a b H=>
  ld1 H a 1 (fun c=>li H b 0 (fun d=>idxK c d 2 (fun e f=>li H e f (fun g=>P (I g) H))))
def B3:Y k0:=fun b a H=>
  ld1 H a 1 (fun c=>asB c (fun d=>pif d (B2 P b a H) (B1 P b a H)))
abbrev k1:Sk:=[(0,.g [.i,.v]),(1,.g [.i,.b])]
def B4:Y k1:=fun a b c d H=>
  newK H [(I a),b] 26 (fun e f=>newK f [(I c),(bool d)] 107 (fun g h=>B3 P e g h))
theorem main:Z Tryz.f150 21 k1 (B4 P) P:=
  s (B3 P) (zBW (zBW (b (cnd 6 (En 21 k0 (B2 P)) (En 21 k0 (B1 P)))) (zBN rfl (e ()) zBS)) (e ()))
theorem ac (a:Int) (b:Value) (c:Int) (d:Bool) (H:AHeap) (h:B4 P a b c d H):A 150 [(agg ⟨[(I a),b]⟩),(agg ⟨[(I c),(bool d)]⟩)] H P:=
  fn Tryz.func150 (main P) h
end F150
namespace F151
variable (P:PT)
abbrev k0:Sk:=[(0,.v)]
def B1:Y k0:=fun a H=>
  lenK a (fun b=>P (I (b:Int)) H)
def B2:Y k0:=fun a H=>
  B1 P a H
theorem main:Z Tryz.f151 5 k0 (B2 P) P:=
  s (B1 P) (e ())
theorem ac (a:Value) (H:AHeap) (h:B2 P a H):A 151 [a] H P:=
  fn Tryz.func151 (main P) h
end F151
namespace F152
variable (P:PT)
abbrev k0:Sk:=[(0,J)]
def B1:Y k0:=fun a H=>
  A 91 [(I a),(I 0),(I 1)] H (fun b c=>asB b (fun d=>P (bool d) c))
def B2:Y k0:=fun a H=>
  B1 P a H
theorem main:Z Tryz.f152 5 k0 (B2 P) P:=
  s (B1 P) (e ())
theorem ac (a:Int) (H:AHeap) (h:B2 P a H):A 152 [(I a)] H P:=
  fn Tryz.func152 (main P) h
end F152
namespace F153
variable (P:PT)
abbrev k0:Sk:=[(3,.x),(6,.x),(7,J),(10,J)]
def B1:Y k0:=fun d b e a H=>
  ld1 H d 1 (fun f=>idxK f a 2 (fun g h=>li H g (h+1) (fun i=>stK H b 0 [(I a),(bool ((i:Int)==e))] (fun c=>li c b 0 (fun j=>ld1 c b 1 (fun k=>asB k (fun l=>P (agg ⟨[(I j),(bool l)]⟩) c)))))))
abbrev k1:Sk:=[(3,.x),(5,.x),(6,.x),(7,J),(8,.v),(9,J)]
def B2:Y k1:=fun c d e f a g H=>
  li H d 0 (fun h=>A 191 [a,(I h)] H (fun i b=>asI .i64 i (fun j=>idxK a (Int.tmod (i64.wrap (j+g)) 3) 1 (fun k l=>li b k l (fun m=>B1 P c e f m b)))))
abbrev k2:Sk:=[(1,.v),(3,.x),(5,.x),(6,.x),(7,J),(8,.v)]
def B3:Y k2:=fun b c d e a f H=>
  idxK b a 1 (fun g h=>li H g h (fun i=>B2 P c d e a f (i64.wrap (1+i)) H))
abbrev k3:Sk:=[(1,.v),(3,.x),(5,.x),(6,.x),(7,J)]
def B4:Y k3:=fun c a d e b H=>
  li H a 0 (fun f=>ld1 H a 1 (fun g=>A 106 [(agg ⟨[(I f),g]⟩),(I b)] H (fun h i=>B3 P c a d e b h i)))
abbrev k4:Sk:=[(1,.v),(3,.x),(5,.x),(6,.x)]
def B5:Y k4:=fun c a b d H=>
  li H a 0 (fun e=>ld1 H a 1 (fun f=>li H b 0 (fun g=>ld1 H b 1 (fun h=>asB h (fun i=>A 150 [(agg ⟨[(I e),f]⟩),(agg ⟨[(I g),(bool i)]⟩)] H (fun j k=>asI .i64 j (fun l=>B4 P c a b d l k)))))))
abbrev k5:Sk:=[(0,.g [.i,.v]),(1,.v),(2,.g [.i,.b])]
def B6:Y k5:=fun a b e c d H=>
  newK H [(I a),b] 26 (fun f g=>newK g [(I c),(bool d)] 107 (fun h i=>newK i [(I 0),(bool false)] 107 (fun j k=>B5 P e f h j k)))
theorem main:Z Tryz.f153 42 k5 (B6 P) P:=
  s (B5 P) (s (B4 P) (s (B3 P) (s (B2 P) (s (B1 P) (e ())))))
theorem ac (a:Int) (b e:Value) (c:Int) (d:Bool) (H:AHeap) (h:B6 P a b e c d H):A 153 [(agg ⟨[(I a),b]⟩),e,(agg ⟨[(I c),(bool d)]⟩)] H P:=
  fn Tryz.func153 (main P) h
end F153
namespace F154
variable (P:PT)
abbrev k0:Sk:=[(2,J)]
def B1:Y k0:=fun a H=>
  P (I a) H
abbrev k1:Sk:=[(1,.v),(2,J),(3,J),(9,.v),(10,J)]
def B3 (P:PT) (b:Y k1):Y k1:=fun c d e f a H=>
  b c d e f (i64.wrap (a+1)) H
abbrev k2:Sk:=[(1,.v),(3,J),(9,.v),(10,J)]
def B4 (k:Y k1):Y k2:=fun b c d a H=>
  idxK b c 1 (fun e f=>li H e f (fun g=>idxK d (Int.tmod (i64.wrap ((i64.wrap (a+1))+g)) 3) 1 (fun h i=>li H h i (fun j=>P (I j) H))))
def B5 (c:Y k1):Y k1:=fun d e f b a H=>
  idxK b a 1 (fun g h=>li H g h (fun i=>pif ((i:Int)==e) (B4 P c d f b a H) (B3 P c d e f b a H)))
def B6 (c:Y k1):Y k1:=fun d b e f a H=>
  pif (decide ((a:Int)<3)) (B5 P c d b e f a H) (B1 P b H)
def L2:Y k1:=fun m n o p c H=>
  ∃ (I:Y k1) (μ:NTy k1 (AHeap→Nat)),I m n o p c H∧∀ d e f g a G,I d e f g a G→B6 P (fun h i j k b l=>I h i j k b l∧μ h i j k b l<μ d e f g a G) d e f g a G
abbrev k3:Sk:=[(1,.v),(2,J),(3,J),(9,.v)]
def B7:Y k3:=fun a b c d H=>
  L2 P a b c d 0 H
abbrev k4:Sk:=[(1,.v),(2,J),(3,J),(4,.x)]
def B8:Y k4:=fun c d a b H=>
  li H b 0 (fun e=>ld1 H b 1 (fun f=>A 82 [(agg ⟨[(I e),f]⟩),(I a)] H (fun g h=>B7 P c d a g h)))
abbrev k5:Sk:=[(0,.g [.i,.v]),(1,.v),(2,J),(3,J)]
def B9:Y k5:=fun a b c d e H=>
  newK H [(I a),b] 26 (fun f g=>B8 P c d e f g)
theorem main:Z Tryz.f154 36 k5 (B9 P) P:=
  s (B8 P) (s (B7 P) (zBW (s (L2 P) (zBC (l (B6 P) (fun N2=>(zBW (zBW (b (cnd 15 (En 36 k1 (B5 P N2)) (En 36 k0 (B1 P)))) (zBN rfl zBS (zBT (fun _ _ h=>h)))) (zBW (zBC (zBW (b (cnd 23 (En 36 k2 (B4 P N2)) (En 36 k1 (B3 P N2)))) (zBN rfl (e ()) zBS))) (a N2))))))) (e ())))
theorem ac (a:Int) (b c:Value) (d e:Int) (H:AHeap) (h:B9 P a b c d e H):A 154 [(agg ⟨[(I a),b]⟩),c,(I d),(I e)] H P:=
  fn Tryz.func154 (main P) h
end F154
end
end Go.Proofs
