import Derived.Test.YtngacbdogjmpaaaGreatX36S
set_option linter.unusedVariables false
set_option maxRecDepth 100000
namespace Go.Proofs
open Go.Abs
open Value IntKind
noncomputable section
namespace F4
variable (P:PT)
abbrev k0:Sk:=[]
def B1:Y k0:=fun H=>
  P (bool true) H
def B2:Y k0:=fun H=>
  P (bool false) H
abbrev k1:Sk:=[(49,J),(53,J),(54,J)]
def B3:Y k1:=fun a b c H=>
  pif ((c:Int) != 0) (B2 P H) (pif (decide ((a:Int)>b)) (B2 P H) (pif (decide ((a:Int)<0)) (B2 P H) (B1 P H)))
abbrev k2:Sk:=[(48,.x),(49,J)]
def B4:Y k2:=fun a b H=>
  li H a 0 (fun f=>ld1 H a 1 (fun g=>li H a 0 (fun e=>mkR H 8 2 [(I 0)] e e (fun h i=>A 38 [(agg ⟨[(I f),g]⟩),h] i (fun j k=>tup2 j (fun l m=>asI .i64 l (fun c=>asI .i64 m (fun d=>B3 P b c d k))))))))
abbrev k3:Sk:=[(48,.x),(49,J),(50,J)]
def B5:Y k3:=fun a b c H=>
  pif ((c:Int)==0) (B4 P a b H) (B1 P H)
def B6:Y k0:=fun H=>
  P (bool false) H
abbrev k4:Sk:=[(48,.x),(49,J),(50,J),(51,J),(52,J)]
def B7:Y k4:=fun c a b d e H=>
  pif ((b:Int) != e) (B6 P H) (pif ((a:Int) != d) (B6 P H) (B5 P c a b H))
def B8:Y k3:=fun a b c H=>
  li H a 0 (fun d=>ld1 H a 1 (fun e=>A 42 [(agg ⟨[(I d),e]⟩)] H (fun f g=>tup2 f (fun h i=>asI .i64 h (fun j=>asI .i64 i (fun k=>B7 P a b c j k g))))))
abbrev k5:Sk:=[(48,.x)]
def B9:Y k5:=fun a H=>
  li H a 0 (fun b=>ld1 H a 1 (fun c=>A 41 [(agg ⟨[(I b),c]⟩)] H (fun d e=>tup2 d (fun f g=>asI .i64 f (fun h=>asI .i64 g (fun i=>B8 P a h i e))))))
abbrev k6:Sk:=[(0,.v)]
def B10:Y k6:=fun b H=>
  A 40 [b] H (fun c d=>agg2 c (fun e f=>asI .i64 e (fun g=>newK d [(I 0),(slice none 0 0)] 26 (fun a h=>stK h a 0 [(I g),f] (fun i=>B9 P a i)))))
def B11:Y k0:=fun H=>
  P (bool false) H
abbrev k7:Sk:=[(0,.v),(38,.b),(39,J),(40,.b),(41,J),(44,J),(45,J),(46,J),(47,J)]
def B12:Y k7:=fun i a b c d e f g h H=>
  pif ((b:Int) != d) (B11 P H) (pif (!(a==c)) (B11 P H) (pif ((f:Int) != h) (B11 P H) (pif ((e:Int) != g) (B11 P H) (B10 P i H))))
abbrev k8:Sk:=[(0,.v),(38,.b),(39,J),(40,.b),(41,J),(42,.x),(43,.v),(44,J),(45,J)]
def B13:Y k8:=fun i b c d e a f g h H=>
  li H a 0 (fun j=>ld1 H a 1 (fun k=>A 39 [(agg ⟨[(I j),k]⟩),f] H (fun l m=>tup2 l (fun n o=>asI .i64 n (fun p=>asI .i64 o (fun q=>B12 P i b c d e g h p q m))))))
abbrev k9:Sk:=[(0,.v),(38,.b),(39,J),(40,.b),(41,J),(42,.x),(43,.v)]
def B14:Y k9:=fun g c d e f a b H=>
  li H a 0 (fun h=>ld1 H a 1 (fun i=>A 38 [(agg ⟨[(I h),i]⟩),b] H (fun j k=>tup2 j (fun l m=>asI .i64 l (fun n=>asI .i64 m (fun o=>B13 P g c d e f a b n o k))))))
abbrev k10:Sk:=[(0,.v),(38,.b),(39,J),(40,.b),(41,J)]
def B15:Y k10:=fun h b c d e H=>
  A 37 [h] H (fun i j=>tup2 i (fun k l=>agg2 k (fun m n=>asI .i64 m (fun o=>newK j [(I 0),(slice none 0 0)] 26 (fun a f=>stK f a 0 [(I o),n] (fun g=>B14 P h b c d e a l g))))))
abbrev k11:Sk:=[(0,.v),(36,.x),(37,.v),(38,.b),(39,J)]
def B16:Y k11:=fun e a b c d H=>
  li H a 0 (fun f=>ld1 H a 1 (fun g=>A 36 [(agg ⟨[(I f),g]⟩),b] H (fun h i=>tup2 h (fun j k=>asB j (fun l=>asI .i64 k (fun m=>B15 P e c d l m i))))))
abbrev k12:Sk:=[(0,.v),(36,.x),(37,.v)]
def B17:Y k12:=fun c a b H=>
  li H a 0 (fun d=>ld1 H a 1 (fun e=>A 27 [(agg ⟨[(I d),e]⟩),b] H (fun f g=>tup2 f (fun h i=>asB h (fun j=>asI .i64 i (fun k=>B16 P c a b j k g))))))
def B18:Y k6:=fun d H=>
  A 35 [d] H (fun e f=>tup2 e (fun g h=>agg2 g (fun i j=>asI .i64 i (fun k=>newK f [(I 0),(slice none 0 0)] 26 (fun a b=>stK b a 0 [(I k),j] (fun c=>B17 P d a h c))))))
abbrev k13:Sk:=[(0,.v),(32,.v),(35,J)]
def B20 (P:PT) (a:Y k13):Y k13:=fun d b c H=>
  a d b (i64.wrap (c+1)) H
def B21 (a:Y k13):Y k0:=fun H=>
  P (bool false) H
def B22 (a:Y k13):Y k13:=fun d b c H=>
  idxK b c 1 (fun e f=>li H e f (fun g=>pif ((g:Int) != 2) (B21 P a H) (B20 P a d b c H)))
def B23 (c:Y k13):Y k13:=fun d a b H=>
  lenK a (fun e=>pif (decide ((b:Int)<(e:Int))) (B22 P c d a b H) (B18 P d H))
def L19:Y k13:=fun j e f H=>
  ∃ (I:Y k13) (μ:NTy k13 (AHeap→Nat)),I j e f H∧∀ g a b G,I g a b G→B23 P (fun h c d i=>I h c d i∧μ h c d i<μ g a b G) g a b G
abbrev k14:Sk:=[(0,.v),(32,.v)]
def B24:Y k14:=fun b a H=>
  L19 P b a 0 H
abbrev k15:Sk:=[(0,.v),(28,.v),(32,.v),(33,J)]
def B26 (P:PT) (a:Y k15):Y k15:=fun e b c d H=>
  a e b c (i64.wrap (d+1)) H
abbrev k16:Sk:=[(0,.v),(28,.v),(32,.v),(33,J),(34,J)]
def B28 (P:PT) (f:Y k15) (a:Y k16):Y k16:=fun g b c d e H=>
  a g b c d (i64.wrap (e+1)) H
def B29 (e:Y k15) (f:Y k16):Y k16:=fun k b a c d H=>
  idxK b c 1 (fun l m=>ld1 H l m (fun n=>idxK n d 1 (fun o p=>li H o p (fun j=>idxK a j 1 (fun q r=>li H q r (fun s=>idxK a j 1 (fun g h=>stK H g h [(I (i64.wrap (s+1)))] (fun i=>B28 P e f k b a c d i))))))))
def B30 (c:Y k15) (f:Y k16):Y k16:=fun g a d b e H=>
  idxK a b 1 (fun h i=>ld1 H h i (fun j=>lenK j (fun k=>pif (decide ((e:Int)<(k:Int))) (B29 P c f g a d b e H) (B26 P c g a d b H))))
def L27 (i:Y k15):Y k16:=fun q j k l m H=>
  ∃ (I:Y k16) (μ:NTy k16 (AHeap→Nat)),I q j k l m H∧∀ n a b c d G,I n a b c d G→B30 P i (fun o e f g h p=>I o e f g h p∧μ o e f g h p<μ n a b c d G) n a b c d G
def B31 (a:Y k15):Y k15:=fun e b c d H=>
  L27 P a e b c d 0 H
def B32 (d:Y k15):Y k15:=fun e a b c H=>
  lenK a (fun f=>pif (decide ((c:Int)<(f:Int))) (B31 P d e a b c H) (B24 P e b H))
def L25:Y k15:=fun m g h i H=>
  ∃ (I:Y k15) (μ:NTy k15 (AHeap→Nat)),I m g h i H∧∀ j a b c G,I j a b c G→B32 P (fun k d e f l=>I k d e f l∧μ k d e f l<μ j a b c G) j a b c G
abbrev k17:Sk:=[(0,.v),(28,.v),(32,.v)]
def B33:Y k17:=fun c a b H=>
  L25 P c a b 0 H
abbrev k18:Sk:=[(0,.v),(26,.x),(28,.v)]
def B34:Y k18:=fun d a b H=>
  ld1 H a 1 (fun e=>lenK e (fun c=>mkR H 8 2 [(I 0)] (c:Int) (c:Int) (fun f g=>B33 P d b f g)))
abbrev k19:Sk:=[(0,.v),(26,.x),(28,.v),(29,J)]
def B35:Y k19:=fun d a b c H=>
  pif ((c:Int)==0) (B34 P d a b H) (B18 P d H)
def B36:Y k0:=fun H=>
  P (bool false) H
abbrev k20:Sk:=[(0,.v),(26,.x),(28,.v),(29,J),(30,.v),(31,J)]
def B37:Y k20:=fun g c a b d e H=>
  pif ((b:Int) != e) (B36 P H) (A 9 [a,d] H (fun h f=>asB h (fun i=>pif (!i) (B36 P f) (B35 P g c a b f))))
abbrev k21:Sk:=[(0,.v),(26,.x),(27,.v),(28,.v),(29,J)]
def B38:Y k21:=fun e a b c d H=>
  li H a 0 (fun f=>ld1 H a 1 (fun g=>A 34 [(agg ⟨[(I f),g]⟩),b] H (fun h i=>tup2 h (fun j k=>asI .i64 k (fun l=>B37 P e a c d j l i)))))
abbrev k22:Sk:=[(0,.v),(26,.x),(27,.v)]
def B39:Y k22:=fun c a b H=>
  li H a 0 (fun d=>ld1 H a 1 (fun e=>A 33 [(agg ⟨[(I d),e]⟩),b] H (fun f g=>tup2 f (fun h i=>asI .i64 i (fun j=>B38 P c a b h j g)))))
def B40:Y k6:=fun d H=>
  A 32 [d] H (fun e f=>tup2 e (fun g h=>agg2 g (fun i j=>asI .i64 i (fun k=>newK f [(I 0),(slice none 0 0)] 26 (fun a b=>stK b a 0 [(I k),j] (fun c=>B39 P d a h c))))))
def B41:Y k0:=fun H=>
  P (bool false) H
abbrev k23:Sk:=[(0,.v),(16,.b),(22,.b),(23,J),(24,.b),(25,J)]
def B42:Y k23:=fun f a b c d e H=>
  pif ((c:Int) != 0) (B41 P H) (pif ((e:Int) != 0) (B41 P H) (pif (!(b==a)) (B41 P H) (pif (!d) (B41 P H) (B40 P f H))))
abbrev k24:Sk:=[(0,.v),(13,.x),(14,.v),(16,.b),(22,.b),(23,J)]
def B43:Y k24:=fun f a b c d e H=>
  li H a 0 (fun g=>ld1 H a 1 (fun h=>A 27 [(agg ⟨[(I g),h]⟩),b] H (fun i j=>tup2 i (fun k l=>asB k (fun m=>asI .i64 l (fun n=>B42 P f c d e m n j))))))
abbrev k25:Sk:=[(0,.v),(13,.x),(14,.v),(16,.b),(20,.v)]
def B44:Y k25:=fun e a b c d H=>
  li H a 0 (fun f=>ld1 H a 1 (fun g=>A 30 [(agg ⟨[(I f),g]⟩),b,d] H (fun h i=>tup2 h (fun j k=>asB j (fun l=>asI .i64 k (fun m=>B43 P e a b c l m i))))))
abbrev k26:Sk:=[(0,.v),(13,.x),(14,.v),(15,.v),(16,.b),(20,.v),(21,J)]
def B46 (P:PT) (a:Y k26):Y k26:=fun h b c d e f g H=>
  a h b c d e f (i64.wrap (g+1)) H
def B47 (c:Y k26):Y k26:=fun h d e a f g b H=>
  idxK a b 1 (fun i j=>li H i j (fun k=>newK H [(I (i64.wrap (1-k)))] 2 (fun l m=>apK T0 2 m g (slice (some ⟨l,0,none⟩) 1 (1+1)) (fun n o=>B46 P c h d e a f n b o))))
def B48 (g:Y k26):Y k26:=fun h a b c d e f H=>
  lenK c (fun i=>pif (decide ((f:Int)<(i:Int))) (B47 P g h a b c d e f H) (B44 P h a b d e H))
def L45:Y k26:=fun v m n o p q r H=>
  ∃ (I:Y k26) (μ:NTy k26 (AHeap→Nat)),I v m n o p q r H∧∀ s a b c d e f G,I s a b c d e f G→B48 P (fun t g h i j k l u=>I t g h i j k l u∧μ t g h i j k l u<μ s a b c d e f G) s a b c d e f G
abbrev k27:Sk:=[(0,.v),(13,.x),(14,.v),(15,.v),(16,.b),(20,.v)]
def B49:Y k27:=fun f a b c d e H=>
  L45 P f a b c d e 0 H
abbrev k28:Sk:=[(0,.v),(13,.x),(14,.v),(15,.v),(16,.b)]
def B50:Y k28:=fun e a b c d H=>
  newK H [] 2 (fun f g=>B49 P e a b c d (slice (some ⟨f,0,none⟩) 0 (0+1)) g)
abbrev k29:Sk:=[(0,.v),(13,.x),(14,.v),(15,.v),(16,.b),(17,J)]
def B51:Y k29:=fun f a b c d e H=>
  pif ((e:Int)==0) (B50 P f a b c d H) (B40 P f H)
def B52:Y k0:=fun H=>
  P (bool false) H
abbrev k30:Sk:=[(0,.v),(13,.x),(14,.v),(15,.v),(16,.b),(17,J),(18,.b),(19,J)]
def B53:Y k30:=fun h c d e a b f g H=>
  pif ((b:Int) != g) (B52 P H) (pif (!(a==f)) (B52 P H) (B51 P h c d e a b H))
def B54:Y k29:=fun f a b c d e H=>
  li H a 0 (fun g=>ld1 H a 1 (fun h=>A 31 [(agg ⟨[(I g),h]⟩),b,c] H (fun i j=>tup2 i (fun k l=>asB k (fun m=>asI .i64 l (fun n=>B53 P f a b c d e m n j))))))
abbrev k31:Sk:=[(0,.v),(13,.x),(14,.v),(15,.v)]
def B55:Y k31:=fun d a b c H=>
  li H a 0 (fun e=>ld1 H a 1 (fun f=>A 30 [(agg ⟨[(I e),f]⟩),b,c] H (fun g h=>tup2 g (fun i j=>asB i (fun k=>asI .i64 j (fun l=>B54 P d a b c k l h))))))
def B56:Y k6:=fun d H=>
  A 29 [d] H (fun e f=>tup3 e (fun g h i=>agg2 g (fun j k=>asI .i64 j (fun l=>newK f [(I 0),(slice none 0 0)] 26 (fun a b=>stK b a 0 [(I l),k] (fun c=>B55 P d a h i c))))))
def B57:Y k0:=fun H=>
  P (bool false) H
abbrev k32:Sk:=[(0,.v),(9,.b),(10,J),(11,J),(12,J)]
def B58:Y k32:=fun d e a b c H=>
  pif ((a:Int) != 0) (B57 P H) (pif (!e) (B57 P H) (pif ((c:Int)==0) (pif (decide ((b:Int)<6)) (B57 P H) (B56 P d H)) (B56 P d H)))
abbrev k33:Sk:=[(0,.v),(3,.x),(9,.b),(10,J)]
def B59:Y k33:=fun c b d a H=>
  li H b 0 (fun e=>ld1 H b 1 (fun f=>A 28 [(agg ⟨[(I e),f]⟩)] H (fun g h=>tup2 g (fun i j=>asI .i64 i (fun k=>asI .i64 j (fun l=>B58 P c d a k l h))))))
abbrev k34:Sk:=[(0,.v),(3,.x),(5,.v)]
def B60:Y k34:=fun b a c H=>
  li H a 0 (fun d=>ld1 H a 1 (fun e=>A 27 [(agg ⟨[(I d),e]⟩),c] H (fun f g=>tup2 f (fun h i=>asB h (fun j=>asI .i64 i (fun k=>B59 P b a j k g))))))
abbrev k35:Sk:=[(0,.v),(3,.x),(5,.v),(6,J)]
def B61:Y k35:=fun a b c d H=>
  pif ((d:Int)==0) (B60 P a b c H) (B56 P a H)
def B62:Y k0:=fun H=>
  P (bool false) H
abbrev k36:Sk:=[(0,.v),(3,.x),(5,.v),(6,J),(7,.v),(8,J)]
def B63:Y k36:=fun d e a b f g H=>
  pif ((b:Int) != g) (B62 P H) (A 9 [a,f] H (fun h c=>asB h (fun i=>pif (!i) (B62 P c) (B61 P d e a b c))))
abbrev k37:Sk:=[(0,.v),(3,.x),(4,.v),(5,.v),(6,J)]
def B64:Y k37:=fun b a c d e H=>
  li H a 0 (fun f=>ld1 H a 1 (fun g=>A 26 [(agg ⟨[(I f),g]⟩),c] H (fun h i=>tup2 h (fun j k=>asI .i64 k (fun l=>B63 P b a d e j l i)))))
abbrev k38:Sk:=[(0,.v),(3,.x),(4,.v)]
def B65:Y k38:=fun c a b H=>
  li H a 0 (fun d=>ld1 H a 1 (fun e=>A 25 [(agg ⟨[(I d),e]⟩),b] H (fun f g=>tup2 f (fun h i=>asI .i64 i (fun j=>B64 P c a b h j g)))))
def B66:Y k6:=fun d H=>
  A 24 [d] H (fun e f=>tup2 e (fun g h=>agg2 g (fun i j=>asI .i64 i (fun k=>newK f [(I 0),(slice none 0 0)] 26 (fun a b=>stK b a 0 [(I k),j] (fun c=>B65 P d a h c))))))
def B67:Y k0:=fun H=>
  P (bool true) H
def B68:Y k6:=fun a H=>
  A 5 [a] H (fun c b=>asB c (fun d=>pif d (B67 P b) (B66 P a b)))
def B69:Y k6:=fun a H=>
  B68 P a H
theorem main:Z Tryz.f4 346 k6 (B69 P) P:=
  s (B68 P) (zBW (zBW (b (cnd 56 (En 346 k0 (B67 P)) (En 346 k6 (B66 P)))) (zBN rfl (e ()) zBS)) (s (B65 P) (s (B64 P) (s (B63 P) (zBW (zBW (b (cnd 82 (En 346 k0 (B62 P)) (En 346 k35 (B61 P)))) (zBN rfl (e ()) zBS)) (zBW (zBW (b (cnd 84 (En 346 k34 (B60 P)) (En 346 k6 (B56 P)))) (zBN rfl (s (B59 P) (s (B58 P) (zBW (b (cnd 109 (En 346 k0 (B57 P)) (En 346 k6 (B56 P)))) (zBN rfl (e ()) zBS)))) zBS)) (s (B55 P) (s (B54 P) (s (B53 P) (zBW (zBW (b (cnd 137 (En 346 k0 (B52 P)) (En 346 k29 (B51 P)))) (zBN rfl (e ()) zBS)) (zBW (zBW (b (cnd 139 (En 346 k28 (B50 P)) (En 346 k6 (B40 P)))) (zBN rfl (s (B49 P) (zBW (s (L45 P) (zBC (l (B48 P) (fun N45=>(zBW (zBW (b (cnd 144 (En 346 k26 (B47 P N45)) (En 346 k25 (B44 P)))) (zBN rfl zBS (zBT (fun _ _ h=>h)))) (zBW (zBC (a (B46 P N45))) (a N45))))))) (s (B43 P) (s (B42 P) (zBW (b (cnd 182 (En 346 k0 (B41 P)) (En 346 k6 (B40 P)))) (zBN rfl (e ()) zBS)))))) zBS)) (s (B39 P) (s (B38 P) (s (B37 P) (zBW (zBW (b (cnd 208 (En 346 k0 (B36 P)) (En 346 k19 (B35 P)))) (zBN rfl (e ()) zBS)) (zBW (zBW (b (cnd 210 (En 346 k18 (B34 P)) (En 346 k6 (B18 P)))) (zBN rfl (s (B33 P) (zBW (s (L25 P) (zBC (l (B32 P) (fun N25=>(zBW (zBW (b (cnd 218 (En 346 k15 (B31 P N25)) (En 346 k14 (B24 P)))) (zBN rfl zBS (zBT (fun _ _ h=>h)))) (zBW (zBC (s (L27 P N25) (zBC (l (B30 P N25) (fun N27=>(zBW (zBW (b (cnd 227 (En 346 k16 (B29 P N25 N27)) (En 346 k15 (B26 P N25)))) (zBN rfl zBS (zBT (fun _ _ h=>h)))) (zBW (zBC (a (B28 P N25 N27))) (a N27)))))))) (a N25))))))) (s (L19 P) (zBC (l (B23 P) (fun N19=>(zBW (zBW (b (cnd 245 (En 346 k13 (B22 P N19)) (En 346 k6 (B18 P)))) (zBN rfl zBS (zBT (fun _ _ h=>h)))) (zBW (zBC (zBW (b (cnd 252 (En 346 k0 (B21 P N19)) (En 346 k13 (B20 P N19)))) (zBN rfl (e ()) zBS))) (a N19))))))))) zBS)) (s (B17 P) (s (B16 P) (s (B15 P) (s (B14 P) (s (B13 P) (s (B12 P) (zBW (zBW (b (cnd 304 (En 346 k0 (B11 P)) (En 346 k6 (B10 P)))) (zBN rfl (e ()) zBS)) (s (B9 P) (s (B8 P) (s (B7 P) (zBW (zBW (b (cnd 324 (En 346 k0 (B6 P)) (En 346 k3 (B5 P)))) (zBN rfl (e ()) zBS)) (zBW (zBW (b (cnd 326 (En 346 k2 (B4 P)) (En 346 k0 (B1 P)))) (zBN rfl (zBW (d (tf 10) (En 346 k1 (B3 P))) (zBW (b (cnd 345 (En 346 k0 (B2 P)) (En 346 k0 (B1 P)))) (zBN rfl (e ()) zBS))) zBS)) (e ())))))))))))))))))))))))))))))
theorem ac (a:Value) (H:AHeap) (h:B69 P a H):A 4 [a] H P:=
  fn Tryz.func4 (main P) h
end F4
namespace F5
variable (P:PT)
abbrev k0:Sk:=[(0,.v)]
def B1:Y k0:=fun a H=>
  lenK a (fun b=>P (bool (decide (((b:Int):Int)>4096))) H)
def B2:Y k0:=fun a H=>
  B1 P a H
theorem main:Z Tryz.f5 6 k0 (B2 P) P:=
  s (B1 P) (e ())
theorem ac (a:Value) (H:AHeap) (h:B2 P a H):A 5 [a] H P:=
  fn Tryz.func5 (main P) h
end F5
namespace F9
variable (P:PT)
abbrev k0:Sk:=[]
def B1:Y k0:=fun H=>
  P (bool true) H
abbrev k1:Sk:=[(0,.v),(1,.v),(5,J)]
def B3 (P:PT) (a:Y k1):Y k1:=fun b c d H=>
  a b c (i64.wrap (d+1)) H
def B4 (a:Y k1):Y k0:=fun H=>
  P (bool false) H
def B5 (b:Y k1):Y k1:=fun c d a H=>
  idxK c a 1 (fun f g=>ld1 H f g (fun h=>idxK d a 1 (fun i j=>ld1 H i j (fun k=>A 12 [h,k] H (fun l e=>asB l (fun m=>pif (!m) (B4 P b e) (B3 P b c d a e)))))))
def B6 (c:Y k1):Y k1:=fun a d b H=>
  lenK a (fun e=>pif (decide ((b:Int)<(e:Int))) (B5 P c a d b H) (B1 P H))
def L2:Y k1:=fun h i j H=>
  ∃ (I:Y k1) (μ:NTy k1 (AHeap→Nat)),I h i j H∧∀ a b c G,I a b c G→B6 P (fun d e f g=>I d e f g∧μ d e f g<μ a b c G) a b c G
abbrev k2:Sk:=[(0,.v),(1,.v)]
def B7:Y k2:=fun a b H=>
  L2 P a b 0 H
def B8:Y k0:=fun H=>
  P (bool false) H
def B9:Y k2:=fun a b H=>
  lenK a (fun c=>lenK b (fun d=>pif (((c:Int):Int) != (d:Int)) (B8 P H) (B7 P a b H)))
def B10:Y k2:=fun a b H=>
  B9 P a b H
theorem main:Z Tryz.f9 27 k2 (B10 P) P:=
  s (B9 P) (zBW (zBW (b (cnd 10 (En 27 k0 (B8 P)) (En 27 k2 (B7 P)))) (zBN rfl (e ()) zBS)) (zBW (s (L2 P) (zBC (l (B6 P) (fun N2=>(zBW (zBW (b (cnd 14 (En 27 k1 (B5 P N2)) (En 27 k0 (B1 P)))) (zBN rfl zBS (zBT (fun _ _ h=>h)))) (zBW (zBC (zBW (d (tf 10) (cnd 26 (En 27 k0 (B4 P N2)) (En 27 k1 (B3 P N2)))) (zBN rfl (e ()) zBS))) (a N2))))))) (e ())))
theorem ac (a b:Value) (H:AHeap) (h:B10 P a b H):A 9 [a,b] H P:=
  fn Tryz.func9 (main P) h
end F9
namespace F12
variable (P:PT)
abbrev k0:Sk:=[]
def B1:Y k0:=fun H=>
  P (bool true) H
abbrev k1:Sk:=[(0,.v),(1,.v),(5,J)]
def B3 (P:PT) (a:Y k1):Y k1:=fun b c d H=>
  a b c (i64.wrap (d+1)) H
def B4 (a:Y k1):Y k0:=fun H=>
  P (bool false) H
def B5 (b:Y k1):Y k1:=fun c d a H=>
  idxK c a 1 (fun e f=>li H e f (fun g=>idxK d a 1 (fun h i=>li H h i (fun j=>pif ((g:Int) != j) (B4 P b H) (B3 P b c d a H)))))
def B6 (c:Y k1):Y k1:=fun a d b H=>
  lenK a (fun e=>pif (decide ((b:Int)<(e:Int))) (B5 P c a d b H) (B1 P H))
def L2:Y k1:=fun h i j H=>
  ∃ (I:Y k1) (μ:NTy k1 (AHeap→Nat)),I h i j H∧∀ a b c G,I a b c G→B6 P (fun d e f g=>I d e f g∧μ d e f g<μ a b c G) a b c G
abbrev k2:Sk:=[(0,.v),(1,.v)]
def B7:Y k2:=fun a b H=>
  L2 P a b 0 H
def B8:Y k0:=fun H=>
  P (bool false) H
def B9:Y k2:=fun a b H=>
  lenK a (fun c=>lenK b (fun d=>pif (((c:Int):Int) != (d:Int)) (B8 P H) (B7 P a b H)))
def B10:Y k2:=fun a b H=>
  B9 P a b H
theorem main:Z Tryz.f12 26 k2 (B10 P) P:=
  s (B9 P) (zBW (zBW (b (cnd 10 (En 26 k0 (B8 P)) (En 26 k2 (B7 P)))) (zBN rfl (e ()) zBS)) (zBW (s (L2 P) (zBC (l (B6 P) (fun N2=>(zBW (zBW (b (cnd 14 (En 26 k1 (B5 P N2)) (En 26 k0 (B1 P)))) (zBN rfl zBS (zBT (fun _ _ h=>h)))) (zBW (zBC (zBW (d (tf 9) (cnd 25 (En 26 k0 (B4 P N2)) (En 26 k1 (B3 P N2)))) (zBN rfl (e ()) zBS))) (a N2))))))) (e ())))
theorem ac (a b:Value) (H:AHeap) (h:B10 P a b H):A 12 [a,b] H P:=
  fn Tryz.func12 (main P) h
end F12
namespace F24
variable (P:PT)
abbrev k0:Sk:=[(2,.x),(4,.v),(5,.x),(6,.v)]
def B1:Y k0:=fun a f e g H=>
  li H e 0 (fun h=>ld1 H e 1 (fun i=>A 62 [f,(agg ⟨[(I h),i]⟩)] H (fun j k=>agg2 j (fun l m=>asI .i64 l (fun n=>stK k a 0 [(I n),m] (fun b=>li b a 0 (fun c=>ld1 b a 1 (fun d=>P (tuple ⟨[(agg ⟨[(I c),d]⟩),g]⟩) b))))))))
def B2:Y k0:=fun f a g b H=>
  lenK b (fun h=>A 60 [a,(I (h:Int))] H (fun i j=>asI .i64 i (fun k=>newK j [(I 0),(I 1),(I 2),(I 3),(I (-1))] 2 (fun l m=>A 78 [a,(slice (some ⟨l,0,none⟩) 5 (5+1))] m (fun n o=>asI .i64 n (fun p=>idxK b k 1 (fun c d=>stK o c d [(I p)] (fun e=>B1 P f a g b e))))))))
def B3:Y k0:=fun a b c d H=>
  newK H [(I 0)] 2 (fun e f=>apK T0 2 f d (slice (some ⟨e,0,none⟩) 1 (1+1)) (fun g h=>B1 P a b c g h))
abbrev k1:Sk:=[(2,.x),(4,.v),(5,.x),(6,.v),(18,J)]
def B4:Y k1:=fun b c d e a H=>
  pif ((a:Int)==1) (B3 P b c d e H) (B1 P b c d e H)
def B5:Y k1:=fun b c d e a H=>
  pif ((a:Int)==0) (B2 P b c d e H) (B4 P b c d e a H)
def B6:Y k0:=fun b a c d H=>
  A 60 [a,(I 10)] H (fun e f=>asI .i64 e (fun g=>B5 P b a c d g f))
abbrev k2:Sk:=[(2,.x),(4,.v),(5,.x)]
def B7:Y k2:=fun b c a H=>
  li H a 0 (fun d=>ld1 H a 1 (fun e=>A 77 [(agg ⟨[(I d),e]⟩)] H (fun f g=>tup2 f (fun h i=>asB i (fun j=>B6 P b c a h g)))))
abbrev k3:Sk:=[(2,.x),(4,.v)]
def B8:Y k3:=fun c a H=>
  A 65 [a] H (fun d e=>agg2 d (fun f g=>asI .i64 f (fun h=>newK e [(I 0),(slice none 0 0)] 26 (fun b i=>stK i b 0 [(I h),g] (fun j=>B7 P c a b j)))))
abbrev k4:Sk:=[(0,.v),(2,.x)]
def B9:Y k4:=fun a b H=>
  A 57 [a] H (fun c d=>B8 P b c d)
abbrev k5:Sk:=[(0,.v)]
def B10:Y k5:=fun a H=>
  newK H [(I 0),(slice none 0 0)] 26 (fun b c=>B9 P a b c)
theorem main:Z Tryz.f24 39 k5 (B10 P) P:=
  s (B9 P) (s (B8 P) (s (B7 P) (s (B6 P) (zBW (s (B5 P) (zBC (zBW (b (cnd 19 (En 39 k0 (B2 P)) (En 39 k1 (B4 P)))) (zBN rfl (a (B1 P)) (zBW (b (cnd 30 (En 39 k0 (B3 P)) (En 39 k0 (B1 P)))) (zBN rfl (a (B1 P)) zBS)))))) (e ())))))
theorem ac (a:Value) (H:AHeap) (h:B10 P a H):A 24 [a] H P:=
  fn Tryz.func24 (main P) h
end F24
namespace F25
variable (P:PT)
abbrev k0:Sk:=[(7,.v)]
def B1:Y k0:=fun a H=>
  P (tuple ⟨[a,(I 0)]⟩) H
abbrev k1:Sk:=[(1,.v),(2,.x),(7,.v),(25,.v),(26,J),(27,J)]
def B3 (P:PT) (d:Y k1):Y k1:=fun e f g a b c H=>
  d e f g a b (i64.wrap (c+1)) H
abbrev k2:Sk:=[(1,.v),(2,.x),(7,.v),(10,.i .u64),(25,.v),(26,J),(27,J)]
def B4 (g:Y k1):Y k2:=fun h a i b c d e H=>
  li H a 0 (fun j=>ld1 H a 1 (fun k=>A 48 [(agg ⟨[(I j),k]⟩),(int .u64 b)] H (fun l m=>A 47 [l] m (fun n o=>apK T0 27 o i n (fun p f=>B3 P g h a p c d e f)))))
abbrev k3:Sk:=[(1,.v),(2,.x),(7,.v),(9,J),(10,.i .u64),(25,.v),(26,J),(27,J),(31,.v),(32,J),(33,J)]
def B6 (P:PT) (m:Y k1) (h:Y k3):Y k3:=fun i j k l a b c d e f g H=>
  h i j k l a b c d e f (i64.wrap (g+1)) H
abbrev k4:Sk:=[(1,.v),(2,.x),(7,.v),(9,J),(10,.i .u64),(11,J),(25,.v),(26,J),(27,J),(31,.v),(32,J),(33,J)]
def B7 (i:Y k1) (j:Y k3):Y k4:=fun k l m n b a c d e f g h H=>
  ((0:Int)≤a)∧(B6 P i j k l m n (u64.wrap (BitVec.ofInt 64 b|||BitVec.ofInt 64 (u64.wrap (1*2^(min (Int.toNat a) 64)))).toNat) c d e f g h H)
abbrev k5:Sk:=[(1,.v),(2,.x),(7,.v),(9,J),(10,.i .u64),(11,J),(12,J),(25,.v),(26,J),(27,J),(31,.v),(32,J),(33,J)]
def B8 (k:Y k1) (l:Y k3):Y k5:=fun m n o h a i j b c d e f g H=>
  pif ((j:Int) != h) (B7 P k l m n o h a i b c d e f g H) (B6 P k l m n o h a b c d e f g H)
def B9 (h:Y k1) (i:Y k3):Y k3:=fun j k l m c d e f b g a H=>
  idxK b a 1 (fun n o=>li H n o (fun p=>B8 P h i j k l m c a p d e f b g a H))
def B10 (h:Y k1) (l:Y k3):Y k3:=fun i j k m a b c d g e f H=>
  pif (decide ((f:Int)<e)) (B9 P h l i j k m a b c d g e f H) (B4 P h i j k a b c d H)
def L5 (L:Y k1):Y k3:=fun Q R S T o p q r s t u H=>
  ∃ (I:Y k3) (μ:NTy k3 (AHeap→Nat)),I Q R S T o p q r s t u H∧∀ v w x y a b c d e f g G,I v w x y a b c d e f g G→B10 P L (fun z C D F h i j k l m n K=>I z C D F h i j k l m n K∧μ z C D F h i j k l m n K<μ v w x y a b c d e f g G) v w x y a b c d e f g G
abbrev k6:Sk:=[(1,.v),(2,.x),(7,.v),(9,J),(10,.i .u64),(25,.v),(26,J),(27,J)]
def B11 (f:Y k1):Y k6:=fun a g h i b c d e H=>
  lenK a (fun j=>L5 P f a g h i b c d e a (j:Int) 0 H)
abbrev k7:Sk:=[(1,.v),(2,.x),(7,.v),(9,J),(25,.v),(26,J),(27,J)]
def B12 (d:Y k1):Y k7:=fun e f g h a b c H=>
  B11 P d e f g h 0 a b c H
def B13 (d:Y k1):Y k1:=fun e f g a c b H=>
  idxK a b 1 (fun h i=>li H h i (fun j=>B12 P d e f g j a c b H))
def B14 (e:Y k1):Y k1:=fun f g d c a b H=>
  pif (decide ((b:Int)<a)) (B13 P e f g d c a b H) (B1 P d H)
def L2:Y k1:=fun q r s g h i H=>
  ∃ (I:Y k1) (μ:NTy k1 (AHeap→Nat)),I q r s g h i H∧∀ j k l a b c G,I j k l a b c G→B14 P (fun m n o d e f p=>I m n o d e f p∧μ m n o d e f p<μ j k l a b c G) j k l a b c G
abbrev k8:Sk:=[(1,.v),(2,.x),(7,.v)]
def B15:Y k8:=fun a b c H=>
  newK H [(I 2),(I 1),(I 0)] 2 (fun d e=>L2 P a b c (slice (some ⟨d,0,none⟩) 3 (3+1)) 3 0 e)
abbrev k9:Sk:=[(1,.v),(2,.x)]
def B16:Y k9:=fun a b H=>
  B15 P a b (slice none 0 0) H
abbrev k10:Sk:=[]
def B17:Y k10:=fun H=>
  P (tuple ⟨[(slice none 0 0),(I 5)]⟩) H
def B18:Y k9:=fun b a H=>
  li H a 0 (fun d=>ld1 H a 1 (fun e=>A 80 [(agg ⟨[(I d),e]⟩),b] H (fun f c=>asB f (fun g=>pif (!g) (B17 P c) (B16 P b a c)))))
abbrev k11:Sk:=[(6,J)]
def B19:Y k11:=fun a H=>
  P (tuple ⟨[(slice none 0 0),(I a)]⟩) H
abbrev k12:Sk:=[(1,.v),(2,.x),(6,J)]
def B20:Y k12:=fun b c a H=>
  pif ((a:Int) != 0) (B19 P a H) (B18 P b c H)
def B21:Y k9:=fun c a H=>
  li H a 0 (fun e=>ld1 H a 1 (fun f=>li H a 0 (fun g=>ld1 H a 1 (fun h=>A 79 [(agg ⟨[(I g),h]⟩),c,(I 0),(I 2)] H (fun i d=>asB i (fun j=>(AHeap.le H d)∧(A 53 [(agg ⟨[(I e),f]⟩),(bool j)] d (fun k l=>asI .i64 k (fun b=>B20 P c a b l)))))))))
abbrev k13:Sk:=[(0,.g [.i,.v]),(1,.v)]
def B22:Y k13:=fun a b c H=>
  newK H [(I a),b] 26 (fun d e=>B21 P c d e)
theorem main:Z Tryz.f25 54 k13 (B22 P) P:=
  s (B21 P) (zBW (zBW (d [(0,false),(1,false),(2,false),(3,true),(4,false),(5,false)] (En 54 k12 (B20 P))) (zBW (b (cnd 19 (En 54 k11 (B19 P)) (En 54 k9 (B18 P)))) (zBN rfl (e ()) zBS))) (zBW (zBW (b (cnd 24 (En 54 k10 (B17 P)) (En 54 k9 (B16 P)))) (zBN rfl (e ()) zBS)) (s (B15 P) (zBW (s (L2 P) (zBC (l (B14 P) (fun N2=>(zBW (b (cnd 28 (En 54 k1 (B13 P N2)) (En 54 k0 (B1 P)))) (zBW (zBN rfl zBS (zBT (fun _ _ h=>h))) (zBW (zBC (s (B12 P N2) (s (B11 P N2) (zBW (s (L5 P N2) (zBC (l (B10 P N2) (fun N5=>(zBW (b (cnd 34 (En 54 k3 (B9 P N2 N5)) (En 54 k2 (B4 P N2)))) (zBW (zBN rfl zBS (zBT (fun _ _ h=>h))) (zBW (zBC (s (B8 P N2 N5) (zBW (b (cnd 40 (En 54 k4 (B7 P N2 N5)) (En 54 k3 (B6 P N2 N5)))) (zBN rfl (a (B6 P N2 N5)) zBS)))) (a N5)))))))) (a (B3 P N2)))))) (a N2)))))))) (e ())))))
theorem ac (a:Int) (b c:Value) (H:AHeap) (h:B22 P a b c H):A 25 [(agg ⟨[(I a),b]⟩),c] H P:=
  fn Tryz.func25 (main P) h
end F25
namespace F26
variable (P:PT)
abbrev k0:Sk:=[(12,.v)]
def B1:Y k0:=fun a H=>
  P (tuple ⟨[a,(I 0)]⟩) H
abbrev k1:Sk:=[(1,.v),(2,.x),(12,.v),(13,J)]
def B3 (P:PT) (c:Y k1):Y k1:=fun d e a b H=>
  c d e a (i64.wrap (b-1)) H
abbrev k2:Sk:=[(1,.v),(2,.x),(12,.v),(13,J),(14,.v)]
def B4 (e:Y k1):Y k2:=fun f a b c d H=>
  li H a 0 (fun g=>ld1 H a 1 (fun h=>A 51 [(agg ⟨[(I g),h]⟩),d] H (fun i j=>apK T0 27 j b i (fun k l=>B3 P e f a k c l))))
abbrev k3:Sk:=[(1,.v),(2,.x),(12,.v),(13,J),(14,.v),(15,J)]
def B6 (P:PT) (h:Y k1) (e:Y k3):Y k3:=fun f g a b c d H=>
  e f g a b c (i64.wrap (d+1)) H
def B7 (e:Y k1) (f:Y k3):Y k3:=fun g h b c d a H=>
  newK H [(I a)] 2 (fun i j=>apK T0 2 j d (slice (some ⟨i,0,none⟩) 1 (1+1)) (fun k l=>B6 P e f g h b c k a l))
def B8 (f:Y k1) (g:Y k3):Y k3:=fun e h c a d b H=>
  idxK e b 1 (fun i j=>li H i j (fun k=>pif ((k:Int) != a) (B7 P f g e h c a d b H) (B6 P f g e h c a d b H)))
def B9 (f:Y k1) (h:Y k3):Y k3:=fun e g a b c d H=>
  lenK e (fun i=>pif (decide ((d:Int)<(i:Int))) (B8 P f h e g a b c d H) (B4 P f e g a b c H))
def L5 (r:Y k1):Y k3:=fun s t i j k l H=>
  ∃ (I:Y k3) (μ:NTy k3 (AHeap→Nat)),I s t i j k l H∧∀ m n a b c d G,I m n a b c d G→B9 P r (fun o p e f g h q=>I o p e f g h q∧μ o p e f g h q<μ m n a b c d G) m n a b c d G
def B10 (d:Y k1):Y k2:=fun e f a b c H=>
  L5 P d e f a b c 0 H
def B11 (c:Y k1):Y k1:=fun d e a b H=>
  newK H [] 2 (fun f g=>B10 P c d e a b (slice (some ⟨f,0,none⟩) 0 (0+1)) g)
def B12 (c:Y k1):Y k1:=fun d e a b H=>
  pif (decide ((b:Int)≥0)) (B11 P c d e a b H) (B1 P a H)
def L2:Y k1:=fun l m e f H=>
  ∃ (I:Y k1) (μ:NTy k1 (AHeap→Nat)),I l m e f H∧∀ g h a b G,I g h a b G→B12 P (fun i j c d k=>I i j c d k∧μ i j c d k<μ g h a b G) g h a b G
abbrev k4:Sk:=[(1,.v),(2,.x),(12,.v)]
def B13:Y k4:=fun b c a H=>
  L2 P b c a 2 H
abbrev k5:Sk:=[(1,.v),(2,.x)]
def B14:Y k5:=fun a b H=>
  newK H [] 27 (fun c d=>B13 P a b (slice (some ⟨c,0,none⟩) 0 (0+1)) d)
abbrev k6:Sk:=[(1,.v),(2,.x),(7,J)]
def B16 (P:PT) (a:Y k6):Y k6:=fun b c d H=>
  a b c (i64.wrap (d+1)) H
abbrev k7:Sk:=[]
def B17 (a:Y k6):Y k7:=fun H=>
  P (tuple ⟨[(slice none 0 0),(I 5)]⟩) H
abbrev k8:Sk:=[(1,.v),(2,.x),(7,J),(9,J),(10,J),(11,J)]
def B18 (a:Y k6):Y k8:=fun e f g d b c H=>
  pif ((d:Int)==b) (B17 P a H) (pif ((d:Int)==c) (B17 P a H) (pif ((b:Int)==c) (B17 P a H) (B16 P a e f g H)))
abbrev k9:Sk:=[(1,.v),(2,.x),(7,J),(8,.v)]
def B19 (b:Y k6):Y k9:=fun a m n c H=>
  idxK c 0 1 (fun o p=>li H o p (fun q=>idxK a q 1 (fun r s=>li H r s (fun t=>idxK c 1 1 (fun u v=>li H u v (fun w=>idxK a w 1 (fun d e=>li H d e (fun f=>idxK c 2 1 (fun g h=>li H g h (fun i=>idxK a i 1 (fun j k=>li H j k (fun l=>B18 P b a m n t f l H))))))))))))
def B20 (a:Y k6):Y k6:=fun d b c H=>
  li H b 0 (fun e=>ld1 H b 1 (fun f=>A 82 [(agg ⟨[(I e),f]⟩),(I c)] H (fun g h=>B19 P a d b c g h)))
def B21 (a:Y k6):Y k6:=fun c b d H=>
  li H b 0 (fun e=>pif (decide ((d:Int)<e)) (B20 P a c b d H) (B14 P c b H))
def L15:Y k6:=fun h i j H=>
  ∃ (I:Y k6) (μ:NTy k6 (AHeap→Nat)),I h i j H∧∀ a b c G,I a b c G→B21 P (fun d e f g=>I d e f g∧μ d e f g<μ a b c G) a b c G
def B22:Y k5:=fun a b H=>
  L15 P a b 0 H
abbrev k10:Sk:=[(1,.v),(2,.x),(6,J)]
def B24 (P:PT) (a:Y k10):Y k10:=fun b c d H=>
  a b c (i64.wrap (d+1)) H
def B25 (a:Y k10):Y k7:=fun H=>
  P (tuple ⟨[(slice none 0 0),(I 2)]⟩) H
def B26 (a:Y k10):Y k10:=fun b e c H=>
  idxK b c 1 (fun f g=>li H f g (fun h=>A 81 [(I h),(I 0),(I 2)] H (fun i d=>asB i (fun j=>pif (!j) (B25 P a d) (B24 P a b e c d)))))
def B27 (a:Y k10):Y k10:=fun b c d H=>
  lenK b (fun e=>pif (decide ((d:Int)<(e:Int))) (B26 P a b c d H) (B22 P b c H))
def L23:Y k10:=fun h i j H=>
  ∃ (I:Y k10) (μ:NTy k10 (AHeap→Nat)),I h i j H∧∀ a b c G,I a b c G→B27 P (fun d e f g=>I d e f g∧μ d e f g<μ a b c G) a b c G
def B28:Y k5:=fun a b H=>
  L23 P a b 0 H
def B29:Y k7:=fun H=>
  P (tuple ⟨[(slice none 0 0),(I 2)]⟩) H
def B30:Y k5:=fun a b H=>
  lenK a (fun c=>ld1 H b 1 (fun d=>lenK d (fun e=>pif (((c:Int):Int) != (e:Int)) (B29 P H) (B28 P a b H))))
def B31:Y k7:=fun H=>
  P (tuple ⟨[(slice none 0 0),(I 1)]⟩) H
def B32:Y k5:=fun c a H=>
  li H a 0 (fun d=>ld1 H a 1 (fun e=>A 72 [(agg ⟨[(I d),e]⟩)] H (fun f b=>asB f (fun g=>pif (!g) (B31 P b) (B30 P c a b)))))
abbrev k11:Sk:=[(0,.g [.i,.v]),(1,.v)]
def B33:Y k11:=fun a b c H=>
  newK H [(I a),b] 26 (fun d e=>B32 P c d e)
theorem main:Z Tryz.f26 105 k11 (B33 P) P:=
  s (B32 P) (zBW (zBW (b (cnd 18 (En 105 k7 (B31 P)) (En 105 k5 (B30 P)))) (zBN rfl (e ()) zBS)) (zBW (zBW (b (cnd 24 (En 105 k7 (B29 P)) (En 105 k5 (B28 P)))) (zBN rfl (e ()) zBS)) (zBW (s (L23 P) (zBC (l (B27 P) (fun N23=>(zBW (zBW (b (cnd 28 (En 105 k10 (B26 P N23)) (En 105 k5 (B22 P)))) (zBN rfl zBS (zBT (fun _ _ h=>h)))) (zBW (zBC (zBW (b (cnd 36 (En 105 k7 (B25 P N23)) (En 105 k10 (B24 P N23)))) (zBN rfl (e ()) zBS))) (a N23))))))) (zBW (s (L15 P) (zBC (l (B21 P) (fun N15=>(zBW (zBW (b (cnd 40 (En 105 k6 (B20 P N15)) (En 105 k5 (B14 P)))) (zBN rfl zBS (zBT (fun _ _ h=>h)))) (zBW (zBC (s (B19 P N15) (zBW (d (tf 21) (En 105 k8 (B18 P N15))) (zBW (b (cnd 76 (En 105 k7 (B17 P N15)) (En 105 k6 (B16 P N15)))) (zBN rfl (e ()) zBS))))) (a N15))))))) (s (B13 P) (zBW (s (L2 P) (zBC (l (B12 P) (fun N2=>(zBW (zBW (b (cnd 79 (En 105 k1 (B11 P N2)) (En 105 k0 (B1 P)))) (zBN rfl zBS (zBT (fun _ _ h=>h)))) (zBW (zBC (s (B10 P N2) (zBW (s (L5 P N2) (zBC (l (B9 P N2) (fun N5=>(zBW (zBW (b (cnd 86 (En 105 k3 (B8 P N2 N5)) (En 105 k2 (B4 P N2)))) (zBN rfl zBS (zBT (fun _ _ h=>h)))) (zBW (zBC (zBW (b (cnd 94 (En 105 k3 (B7 P N2 N5)) (En 105 k3 (B6 P N2 N5)))) (zBN rfl (a (B6 P N2 N5)) zBS))) (a N5))))))) (a (B3 P N2))))) (a N2))))))) (e ())))))))
theorem ac (a:Int) (b c:Value) (H:AHeap) (h:B33 P a b c H):A 26 [(agg ⟨[(I a),b]⟩),c] H P:=
  fn Tryz.func26 (main P) h
end F26
namespace F27
variable (P:PT)
abbrev k0:Sk:=[(1,.v),(2,.x)]
def B1:Y k0:=fun b a H=>
  li H a 0 (fun c=>ld1 H a 1 (fun d=>A 84 [(agg ⟨[(I c),d]⟩),b] H (fun e f=>asB e (fun g=>P (tuple ⟨[(bool g),(I 0)]⟩) f))))
abbrev k1:Sk:=[(6,J)]
def B2:Y k1:=fun a H=>
  P (tuple ⟨[(bool false),(I a)]⟩) H
abbrev k2:Sk:=[(1,.v),(2,.x),(6,J)]
def B3:Y k2:=fun b c a H=>
  pif ((a:Int) != 0) (B2 P a H) (B1 P b c H)
def B4:Y k0:=fun c a H=>
  li H a 0 (fun e=>ld1 H a 1 (fun f=>li H a 0 (fun g=>ld1 H a 1 (fun h=>A 83 [(agg ⟨[(I g),h]⟩),c] H (fun i d=>asB i (fun j=>(AHeap.le H d)∧(A 53 [(agg ⟨[(I e),f]⟩),(bool j)] d (fun k l=>asI .i64 k (fun b=>B3 P c a b l)))))))))
abbrev k3:Sk:=[(0,.g [.i,.v]),(1,.v)]
def B5:Y k3:=fun a b c H=>
  newK H [(I a),b] 26 (fun d e=>B4 P c d e)
theorem main:Z Tryz.f27 18 k3 (B5 P) P:=
  s (B4 P) (zBW (zBW (d [(0,false),(1,false),(2,false),(3,true),(4,false),(5,false)] (En 18 k2 (B3 P))) (zBW (b (cnd 13 (En 18 k1 (B2 P)) (En 18 k0 (B1 P)))) (zBN rfl (e ()) zBS))) (e ()))
theorem ac (a:Int) (b c:Value) (H:AHeap) (h:B5 P a b c H):A 27 [(agg ⟨[(I a),b]⟩),c] H P:=
  fn Tryz.func27 (main P) h
end F27
namespace F28
variable (P:PT)
def ret (P:PT):EP:=retE T0 15 Tryz.f28 P
abbrev k0:Sk:=[(1,.x)]
def B1:Y k0:=fun g H=>
  li H g 0 (fun i=>ld1 H g 1 (fun j=>A 86 [] H (fun k h=>agg3 k (fun l m n=>(AHeap.le H h)∧(A 85 [(agg ⟨[(I i),j]⟩),(agg ⟨[l,m,n]⟩)] h (fun a b=>tup2 a (fun c d=>asI .i64 c (fun e=>asI .i64 d (fun f=>P (tuple ⟨[(I e),(I f)]⟩) b)))))))))
abbrev k1:Sk:=[(4,J)]
def B2:Y k1:=fun a H=>
  P (tuple ⟨[(I 0),(I a)]⟩) H
abbrev k2:Sk:=[(1,.x),(4,J)]
def B3:Y k2:=fun b a H=>
  pif ((a:Int) != 0) (B2 P a H) (B1 P b H)
def B4:Y k0:=fun a H=>
  li H a 0 (fun b=>ld1 H a 1 (fun c=>A 53 [(agg ⟨[(I b),c]⟩),(bool true)] H (fun d e=>asI .i64 d (fun f=>B3 P a f e))))
abbrev k3:Sk:=[(0,.g [.i,.v])]
def B5:Y k3:=fun a b H=>
  newK H [(I a),b] 26 (fun c d=>B4 P c d)
theorem main:Z Tryz.f28 15 k3 (B5 P) P:=
  s (B4 P) (zBW (s (B3 P) (zBW (b (cnd 8 (En 15 k1 (B2 P)) (En 15 k0 (B1 P)))) (zBN rfl (e ()) zBS))) (zBW (d [(0,false),(1,true),(2,false),(3,false),(4,false),(5,false),(6,false)] (ret P)) zBV))
theorem ac (a:Int) (b:Value) (H:AHeap) (h:B5 P a b H):A 28 [(agg ⟨[(I a),b]⟩)] H P:=
  fn Tryz.func28 (main P) h
end F28
namespace F29
variable (P:PT)
abbrev k0:Sk:=[(2,.x),(5,.v),(6,.x),(7,.v),(8,.v)]
def B1:Y k0:=fun a f e g h H=>
  li H e 0 (fun i=>ld1 H e 1 (fun j=>A 62 [f,(agg ⟨[(I i),j]⟩)] H (fun k l=>agg2 k (fun m n=>asI .i64 m (fun o=>stK l a 0 [(I o),n] (fun b=>li b a 0 (fun c=>ld1 b a 1 (fun d=>P (tuple ⟨[(agg ⟨[(I c),d]⟩),g,h]⟩) b))))))))
def B2:Y k0:=fun a b c d e H=>
  newK H [(I 0)] 2 (fun f g=>apK T0 2 g e (slice (some ⟨f,0,none⟩) 1 (1+1)) (fun h i=>B1 P a b c d h i))
def B3:Y k0:=fun c a d e b H=>
  newK H [(I 2),(I (-1))] 2 (fun f g=>A 78 [a,(slice (some ⟨f,0,none⟩) 2 (2+1))] g (fun h i=>asI .i64 h (fun j=>idxK b 0 1 (fun k l=>stK i k l [(I j)] (fun m=>B1 P c a d e b m)))))
def B4:Y k0:=fun b c d e a H=>
  lenK a (fun f=>pif (decide (((f:Int):Int)>0)) (B3 P b c d e a H) (B1 P b c d e a H))
abbrev k1:Sk:=[(2,.x),(5,.v),(6,.x),(7,.v),(8,.v),(86,J)]
def B5:Y k1:=fun b c d e f a H=>
  pif ((a:Int)==1) (B4 P b c d e f H) (B1 P b c d e f H)
def B6:Y k1:=fun b c d e f a H=>
  pif ((a:Int)==0) (B2 P b c d e f H) (B5 P b c d e f a H)
def B7:Y k0:=fun b a c d e H=>
  A 60 [a,(I 20)] H (fun f g=>asI .i64 f (fun h=>B6 P b a c d e h g))
abbrev k2:Sk:=[(2,.x),(5,.v),(6,.x),(7,.v),(8,.v),(10,J)]
def B9 (P:PT) (b:Y k2):Y k2:=fun c d e f g a H=>
  b c d e f g (i64.wrap (a+1)) H
abbrev k3:Sk:=[(2,.x),(5,.v),(6,.x),(7,.v),(11,.v)]
def B10 (f:Y k2):Y k3:=fun b c d e a H=>
  B7 P b c d e a H
abbrev k4:Sk:=[(2,.x),(5,.v),(6,.x),(7,.v),(8,.v),(10,J),(11,.v),(13,.b)]
def B11 (d:Y k2):Y k4:=fun e f g h i a b c H=>
  pif c (B10 P d e f g h b H) (B9 P d e f g h i a H)
abbrev k5:Sk:=[(2,.x),(5,.v),(6,.x),(7,.v),(8,.v),(10,J),(11,.v)]
def B12 (e:Y k2):Y k5:=fun f g b d h c a H=>
  li H b 0 (fun i=>ld1 H b 1 (fun j=>A 31 [(agg ⟨[(I i),j]⟩),d,a] H (fun k l=>tup2 k (fun m n=>asB m (fun o=>asI .i64 n (fun p=>B11 P e f g b d h c a o l))))))
abbrev k6:Sk:=[(2,.x),(5,.v),(6,.x),(7,.v),(8,.v),(10,J),(11,.v),(12,J)]
def B14 (P:PT) (j:Y k2) (a:Y k6):Y k6:=fun e f g h i b c d H=>
  a e f g h i b c (i64.wrap (d+1)) H
def B15 (e:Y k2) (c:Y k6):Y k6:=fun f g h i j b d a H=>
  ((0:Int)≤(u64.wrap a))∧(newK H [(I (i64.wrap (BitVec.ofInt 64 (Int.fdiv b (2^(min (Int.toNat (u64.wrap a)) 64)))&&&BitVec.ofInt 64 1).toNat))] 2 (fun k l=>apK T0 2 l d (slice (some ⟨k,0,none⟩) 1 (1+1)) (fun m n=>B14 P e c f g h i j b m a n)))
def B16 (f:Y k2) (d:Y k6):Y k6:=fun g h i e j a b c H=>
  lenK e (fun k=>pif (decide ((c:Int)<(k:Int))) (B15 P f d g h i e j a b c H) (B12 P f g h i e j a b H))
def L13 (u:Y k2):Y k6:=fun v w x y z g h i H=>
  ∃ (I:Y k6) (μ:NTy k6 (AHeap→Nat)),I v w x y z g h i H∧∀ j k l m n a b c G,I j k l m n a b c G→B16 P u (fun o p q r s d e f t=>I o p q r s d e f t∧μ o p q r s d e f t<μ j k l m n a b c G) j k l m n a b c G
def B17 (c:Y k2):Y k5:=fun d e f g h a b H=>
  L13 P c d e f g h a b 0 H
def B18 (b:Y k2):Y k2:=fun c d e f g a H=>
  newK H [] 2 (fun h i=>B17 P b c d e f g a (slice (some ⟨h,0,none⟩) 0 (0+1)) i)
def B19 (h:Y k2):Y k2:=fun c d e b f a H=>
  lenK b (fun g=>((0:Int)≤(u64.wrap (g:Int)))∧(pif (decide ((a:Int)<(i64.wrap (1*2^(min (Int.toNat (u64.wrap (g:Int))) 64))))) (B18 P h c d e b f a H) (B7 P c d e b f H)))
def L8:Y k2:=fun o p q r s c H=>
  ∃ (I:Y k2) (μ:NTy k2 (AHeap→Nat)),I o p q r s c H∧∀ d e f g h a G,I d e f g h a G→B19 P (fun i j k l m b n=>I i j k l m b n∧μ i j k l m b n<μ d e f g h a G) d e f g h a G
def B20:Y k0:=fun a b c d e H=>
  L8 P a b c d e 0 H
def B21:Y k0:=fun d c a b e H=>
  A 60 [c,(I 2)] H (fun m f=>asI .i64 m (fun n=>pif ((n:Int)==0) (lenK b (fun o=>pif (decide (((o:Int):Int)<9)) (li f a 0 (fun p=>ld1 f a 1 (fun q=>A 88 [(agg ⟨[(I p),q]⟩),b] f (fun r h=>asI .i64 r (fun s=>pif ((s:Int)==0) (li h a 0 (fun i=>ld1 h a 1 (fun j=>A 89 [(agg ⟨[(I i),j]⟩),b] h (fun k g=>asB k (fun l=>pif l (B20 P d c a b e g) (B7 P d c a b e g)))))) (B7 P d c a b e h)))))) (B7 P d c a b e f))) (B7 P d c a b e f)))
abbrev k7:Sk:=[(2,.x),(5,.v),(6,.x),(7,.v),(8,.v),(9,J)]
def B23 (P:PT) (a:Y k7):Y k7:=fun b c d e f g H=>
  a b c d e f (i64.wrap (g+1)) H
def B24 (a:Y k7):Y k7:=fun c b d e f g H=>
  A 60 [b,(I 2)] H (fun h i=>asI .i64 h (fun j=>newK i [(I j)] 2 (fun k l=>apK T0 2 l f (slice (some ⟨k,0,none⟩) 1 (1+1)) (fun m n=>B23 P a c b d e m g n))))
def B25 (a:Y k7):Y k7:=fun c d e b f g H=>
  lenK b (fun h=>pif (decide ((g:Int)<(h:Int))) (B24 P a c d e b f g H) (B21 P c d e b f H))
def L22:Y k7:=fun n o p q r s H=>
  ∃ (I:Y k7) (μ:NTy k7 (AHeap→Nat)),I n o p q r s H∧∀ a b c d e f G,I a b c d e f G→B25 P (fun g h i j k l m=>I g h i j k l m∧μ g h i j k l m<μ a b c d e f G) a b c d e f G
def B26:Y k0:=fun a b c d e H=>
  L22 P a b c d e 0 H
abbrev k8:Sk:=[(2,.x),(5,.v),(6,.x),(7,.v)]
def B27:Y k8:=fun a b c d H=>
  newK H [] 2 (fun e f=>B26 P a b c d (slice (some ⟨e,0,none⟩) 0 (0+1)) f)
abbrev k9:Sk:=[(2,.x),(5,.v)]
def B28:Y k9:=fun e d H=>
  A 87 [d] H (fun f g=>tup2 f (fun h i=>agg2 h (fun j k=>asI .i64 j (fun l=>newK g [(I 0),(slice none 0 0)] 26 (fun a b=>stK b a 0 [(I l),k] (fun c=>B27 P e d a i c))))))
abbrev k10:Sk:=[(0,.v),(2,.x)]
def B29:Y k10:=fun a b H=>
  A 57 [a] H (fun c d=>B28 P b c d)
abbrev k11:Sk:=[(0,.v)]
def B30:Y k11:=fun a H=>
  newK H [(I 0),(slice none 0 0)] 26 (fun b c=>B29 P a b c)
theorem main:Z Tryz.f29 107 k11 (B30 P) P:=
  s (B29 P) (s (B28 P) (s (B27 P) (s (B26 P) (zBW (s (L22 P) (zBC (l (B25 P) (fun N22=>(zBW (zBW (b (cnd 26 (En 107 k7 (B24 P N22)) (En 107 k0 (B21 P)))) (zBN rfl zBS (zBT (fun _ _ h=>h)))) (zBW (zBC (a (B23 P N22))) (a N22))))))) (zBW (zBW (b (cnd 52 (En 107 k0 (B20 P)) (En 107 k0 (B7 P)))) (zBN rfl (s (L8 P) (zBC (l (B19 P) (fun N8=>(zBW (zBW (b (cnd 58 (En 107 k2 (B18 P N8)) (En 107 k0 (B7 P)))) (zBN rfl zBS (zBT (fun _ _ h=>h)))) (zBW (zBC (s (B17 P N8) (zBW (s (L13 P N8) (zBC (l (B16 P N8) (fun N13=>(zBW (zBW (b (cnd 65 (En 107 k6 (B15 P N8 N13)) (En 107 k5 (B12 P N8)))) (zBN rfl zBS (zBT (fun _ _ h=>h)))) (zBW (zBC (a (B14 P N8 N13))) (a N13))))))) (s (B11 P N8) (zBW (b (cnd 83 (En 107 k3 (B10 P N8)) (En 107 k2 (B9 P N8)))) (zBN rfl (s (B7 P) (zBT (fun _ _ h=>h))) zBS)))))) (a N8))))))) zBS)) (zBW (s (B6 P) (zBC (zBW (b (cnd 87 (En 107 k0 (B2 P)) (En 107 k1 (B5 P)))) (zBN rfl (a (B1 P)) (zBW (b (cnd 92 (En 107 k0 (B4 P)) (En 107 k0 (B1 P)))) (zBN rfl (zBW (b (cnd 96 (En 107 k0 (B3 P)) (En 107 k0 (B1 P)))) (zBN rfl (a (B1 P)) zBS)) zBS)))))) (e ())))))))
theorem ac (a:Value) (H:AHeap) (h:B30 P a H):A 29 [a] H P:=
  fn Tryz.func29 (main P) h
end F29
namespace F30
variable (P:PT)
abbrev k0:Sk:=[(3,.x),(10,.v)]
def B1:Y k0:=fun b a H=>
  mlenK H a (fun c=>ld1 H b 1 (fun d=>lenK d (fun e=>P (tuple ⟨[(bool (((c:Int):Int)==(i64.wrap (2*(e:Int))))),(I 0)]⟩) H)))
abbrev k1:Sk:=[(2,.v),(3,.x),(10,.v),(40,.v),(41,J),(42,J)]
def B3 (P:PT) (e:Y k1):Y k1:=fun f g a b c d H=>
  e f g a b c (i64.wrap (d+1)) H
abbrev k2:Sk:=[(2,.v),(3,.x),(10,.v),(11,J),(40,.v),(41,J),(42,J),(50,.v),(51,J),(52,J)]
def B5 (P:PT) (l:Y k1) (i:Y k2):Y k2:=fun j k a b c d e f g h H=>
  i j k a b c d e f g (i64.wrap (h+1)) H
abbrev k3:Sk:=[(2,.v),(3,.x),(10,.v),(11,J),(14,.x),(40,.v),(41,J),(42,J),(50,.v),(51,J),(52,J)]
def B6 (j:Y k1) (k:Y k2):Y k3:=fun l m a c b d e f g h i H=>
  li H b 0 (fun n=>ld1 H b 1 (fun o=>asB o (fun p=>mupK Tryz.prog 107 H a (agg ⟨[(I n),(bool p)]⟩) (bool true) (fun q=>B5 P j k l m a c d e f g h i q))))
def B7 (k:Y k1) (l:Y k2):Y k3:=fun j m c b a d e f g h i H=>
  ld1 H a 1 (fun n=>asB n (fun o=>idxK j b 1 (fun p q=>li H p q (fun r=>stK H a 1 [(bool (!(o==((r:Int)==1))))] (fun s=>B6 P k l j m c b a d e f g h i s)))))
def B8 (l:Y k1) (m:Y k2):Y k2:=fun n o c d e f g a h b H=>
  idxK a b 2 (fun i j=>li H i j (fun p=>ld1 H i (j+1) (fun q=>asB q (fun r=>newK H [(I 0),(bool false)] 107 (fun k s=>stK s k 0 [(I p),(bool r)] (fun t=>B7 P l m n o c d k e f g a h b t))))))
def B9 (i:Y k1) (l:Y k2):Y k2:=fun j k a g b c d h e f H=>
  pif (decide ((f:Int)<e)) (B8 P i l j k a g b c d h e f H) (B3 P i j k a b c d H)
def L4 (K:Y k1):Y k2:=fun L Q q r s t u v w x H=>
  ∃ (I:Y k2) (μ:NTy k2 (AHeap→Nat)),I L Q q r s t u v w x H∧∀ y z a b c d e f g h G,I y z a b c d e f g h G→B9 P K (fun C D i j k l m n o p F=>I C D i j k l m n o p F∧μ C D i j k l m n o p F<μ y z a b c d e f g h G) y z a b c d e f g h G
abbrev k4:Sk:=[(2,.v),(3,.x),(10,.v),(11,J),(12,.v),(40,.v),(41,J),(42,J)]
def B10 (j:Y k1):Y k4:=fun k a b c d e f g H=>
  li H a 0 (fun l=>ld1 H a 1 (fun m=>A 46 [d] H (fun n h=>asI .u64 n (fun o=>(AHeap.le H h)∧(A 93 [(agg ⟨[(I l),m]⟩),(int .u64 o)] h (fun i p=>lenK i (fun q=>L4 P j k a b c e f g i (q:Int) 0 p)))))))
def B11 (e:Y k1):Y k1:=fun f g c b d a H=>
  idxK b a 1 (fun h i=>ld1 H h i (fun j=>B10 P e f g c a j b d a H))
def B12 (f:Y k1):Y k1:=fun g e a d b c H=>
  pif (decide ((c:Int)<b)) (B11 P f g e a d b c H) (B1 P e a H)
def L2:Y k1:=fun r s i j k l H=>
  ∃ (I:Y k1) (μ:NTy k1 (AHeap→Nat)),I r s i j k l H∧∀ m n a b c d G,I m n a b c d G→B12 P (fun o p e f g h q=>I o p e f g h q∧μ o p e f g h q<μ m n a b c d G) m n a b c d G
abbrev k5:Sk:=[(1,.v),(2,.v),(3,.x),(10,.v)]
def B13:Y k5:=fun b c d a H=>
  lenK b (fun e=>L2 P c d a b (e:Int) 0 H)
abbrev k6:Sk:=[(1,.v),(2,.v),(3,.x)]
def B14:Y k6:=fun a b c H=>
  newM H (fun d e=>B13 P a b c (Value.map (some d)) e)
abbrev k7:Sk:=[]
def B15:Y k7:=fun H=>
  P (tuple ⟨[(bool false),(I 5)]⟩) H
def B16:Y k6:=fun b d a H=>
  li H a 0 (fun e=>ld1 H a 1 (fun f=>A 84 [(agg ⟨[(I e),f]⟩),b] H (fun g c=>asB g (fun h=>pif (!h) (B15 P c) (B14 P b d a c)))))
abbrev k8:Sk:=[(9,J)]
def B17:Y k8:=fun a H=>
  P (tuple ⟨[(bool false),(I a)]⟩) H
abbrev k9:Sk:=[(1,.v),(2,.v),(3,.x),(9,J)]
def B18:Y k9:=fun b c d a H=>
  pif ((a:Int) != 0) (B17 P a H) (B16 P b c d H)
abbrev k10:Sk:=[(1,.v),(2,.v),(3,.x),(8,.v)]
def B19:Y k10:=fun b c a s H=>
  li H a 0 (fun f=>ld1 H a 1 (fun g=>li H a 0 (fun t=>ld1 H a 1 (fun u=>A 83 [(agg ⟨[(I t),u]⟩),b] H (fun v d=>asB v (fun w=>(AHeap.le H d)∧(pif w (lenK c (fun x=>lenK b (fun y=>pif (((x:Int):Int)==(y:Int)) (A 92 [c,s] d (fun h e=>asB h (fun i=>(AHeap.le d e)∧(A 53 [(agg ⟨[(I f),g]⟩),(bool i)] e (fun j k=>asI .i64 j (fun l=>B18 P b c a l k)))))) (A 53 [(agg ⟨[(I f),g]⟩),(bool false)] d (fun m n=>asI .i64 m (fun o=>B18 P b c a o n)))))) (A 53 [(agg ⟨[(I f),g]⟩),(bool false)] d (fun p q=>asI .i64 p (fun r=>B18 P b c a r q))))))))))
def B20:Y k6:=fun a b c H=>
  B19 P a b c (func (.func 90) ⟨[]⟩ ⟨[]⟩) H
abbrev k11:Sk:=[(0,.g [.i,.v]),(1,.v),(2,.v)]
def B21:Y k11:=fun a b c d H=>
  newK H [(I a),b] 26 (fun e f=>B20 P c d e f)
theorem main:Z Tryz.f30 76 k11 (B21 P) P:=
  s (B20 P) (s (B19 P) (zBW (zBW (d [(0,false),(1,false),(2,false),(3,true),(4,false),(5,false),(6,false),(7,false),(8,false),(9,false),(10,false),(11,false),(12,false),(13,false),(14,true),(15,false),(16,false),(17,false)] (En 76 k9 (B18 P))) (zBW (b (cnd 33 (En 76 k8 (B17 P)) (En 76 k6 (B16 P)))) (zBN rfl (e ()) zBS))) (zBW (zBW (b (cnd 38 (En 76 k7 (B15 P)) (En 76 k6 (B14 P)))) (zBN rfl (e ()) zBS)) (s (B13 P) (zBW (s (L2 P) (zBC (l (B12 P) (fun N2=>(zBW (b (cnd 43 (En 76 k1 (B11 P N2)) (En 76 k0 (B1 P)))) (zBW (zBN rfl zBS (zBT (fun _ _ h=>h))) (zBW (zBC (s (B10 P N2) (zBW (d [(0,false),(1,false),(5,false),(2,true),(3,false),(4,false)] (En 76 k2 (L4 P N2))) (zBC (l (B9 P N2) (fun N4=>(zBW (b (cnd 53 (En 76 k2 (B8 P N2 N4)) (En 76 k1 (B3 P N2)))) (zBW (zBN rfl zBS (zBT (fun _ _ h=>h))) (zBW (zBC (s (B7 P N2 N4) (zBW (d (tf 10) (En 76 k3 (B6 P N2 N4))) (a (B5 P N2 N4))))) (a N4)))))))))) (a N2)))))))) (e ()))))))
theorem ac (a:Int) (b c d:Value) (H:AHeap) (h:B21 P a b c d H):A 30 [(agg ⟨[(I a),b]⟩),c,d] H P:=
  fn Tryz.func30 (main P) h
end F30
namespace F31
variable (P:PT)
abbrev k0:Sk:=[]
def B1:Y k0:=fun H=>
  P (tuple ⟨[(bool true),(I 0)]⟩) H
abbrev k1:Sk:=[(10,.v),(14,J)]
def B3 (P:PT) (c:Y k1):Y k1:=fun a b H=>
  c a (i64.wrap (b+1)) H
def B4 (a:Y k1):Y k0:=fun H=>
  P (tuple ⟨[(bool false),(I 0)]⟩) H
def B5 (c:Y k1):Y k1:=fun a b H=>
  idxK a b 1 (fun d e=>li H d e (fun f=>pif ((f:Int) != 0) (B4 P c H) (B3 P c a b H)))
def B6 (c:Y k1):Y k1:=fun a b H=>
  lenK a (fun d=>pif (decide ((b:Int)<(d:Int))) (B5 P c a b H) (B1 P H))
def L2:Y k1:=fun e f H=>
  ∃ (I:Y k1) (μ:NTy k1 (AHeap→Nat)),I e f H∧∀ a b G,I a b G→B6 P (fun c d g=>I c d g∧μ c d g<μ a b G) a b G
abbrev k2:Sk:=[(10,.v)]
def B7:Y k2:=fun a H=>
  L2 P a 0 H
abbrev k3:Sk:=[(1,.v),(2,.v),(3,.x),(10,.v),(11,J)]
def B9 (P:PT) (c:Y k3):Y k3:=fun d e f a b H=>
  c d e f a (i64.wrap (b+1)) H
abbrev k4:Sk:=[(1,.v),(2,.v),(3,.x),(10,.v),(11,J),(12,.v),(13,J)]
def B11 (P:PT) (i:Y k3) (a:Y k4):Y k4:=fun f g h b c d e H=>
  a f g h b c d (i64.wrap (e+1)) H
def B12 (k:Y k3) (d:Y k4):Y k4:=fun i l m a b e c H=>
  idxK i b 1 (fun n o=>ld1 H n o (fun p=>idxK p c 1 (fun q r=>li H q r (fun j=>idxK a j 1 (fun s t=>li H s t (fun u=>idxK a j 1 (fun f g=>stK H f g [(I (i64.wrap (u+1)))] (fun h=>B11 P k d i l m a b e c h))))))))
def B13 (k:Y k3) (d:Y k4):Y k4:=fun i l m a b e c H=>
  idxK i b 1 (fun n o=>ld1 H n o (fun p=>idxK p c 1 (fun q r=>li H q r (fun j=>idxK a j 1 (fun s t=>li H s t (fun u=>idxK a j 1 (fun f g=>stK H f g [(I (i64.wrap (u-1)))] (fun h=>B11 P k d i l m a b e c h))))))))
def B14 (g:Y k3) (d:Y k4):Y k4:=fun h f i e a b c H=>
  idxK b c 1 (fun j k=>ld1 H j k (fun l=>asB l (fun m=>idxK f a 1 (fun n o=>li H n o (fun p=>pif (m==((p:Int)==0)) (B12 P g d h f i e a b c H) (B13 P g d h f i e a b c H))))))
def B15 (g:Y k3) (d:Y k4):Y k4:=fun e h i b a f c H=>
  idxK e a 1 (fun j k=>ld1 H j k (fun l=>lenK l (fun m=>pif (decide ((c:Int)<(m:Int))) (B14 P g d e h i b a f c H) (B9 P g e h i b a H))))
def L10 (t:Y k3):Y k4:=fun u v w i j k l H=>
  ∃ (I:Y k4) (μ:NTy k4 (AHeap→Nat)),I u v w i j k l H∧∀ m n o a b c d G,I m n o a b c d G→B15 P t (fun p q r e f g h s=>I p q r e f g h s∧μ p q r e f g h s<μ m n o a b c d G) m n o a b c d G
abbrev k5:Sk:=[(1,.v),(2,.v),(3,.x),(10,.v),(11,J),(12,.v)]
def B16 (d:Y k3):Y k5:=fun e f g a b c H=>
  L10 P d e f g a b c 0 H
def B17 (e:Y k3):Y k3:=fun d f b c a H=>
  li H b 0 (fun g=>ld1 H b 1 (fun h=>idxK d a 1 (fun i j=>ld1 H i j (fun k=>A 94 [(agg ⟨[(I g),h]⟩),k] H (fun l m=>B16 P e d f b c a l m)))))
def B18 (d:Y k3):Y k3:=fun c e f a b H=>
  lenK c (fun g=>pif (decide ((b:Int)<(g:Int))) (B17 P d c e f a b H) (B7 P a H))
def L8:Y k3:=fun n o p e f H=>
  ∃ (I:Y k3) (μ:NTy k3 (AHeap→Nat)),I n o p e f H∧∀ g h i a b G,I g h i a b G→B18 P (fun j k l c d m=>I j k l c d m∧μ j k l c d m<μ g h i a b G) g h i a b G
abbrev k6:Sk:=[(1,.v),(2,.v),(3,.x),(10,.v)]
def B19:Y k6:=fun b c d a H=>
  L8 P b c d a 0 H
abbrev k7:Sk:=[(1,.v),(2,.v),(3,.x)]
def B20:Y k7:=fun c d a H=>
  ld1 H a 1 (fun e=>lenK e (fun b=>mkR H 8 2 [(I 0)] (b:Int) (b:Int) (fun f g=>B19 P c d a f g)))
def B21:Y k0:=fun H=>
  P (tuple ⟨[(bool false),(I 5)]⟩) H
def B22:Y k7:=fun b d a H=>
  li H a 0 (fun e=>ld1 H a 1 (fun f=>A 89 [(agg ⟨[(I e),f]⟩),b] H (fun g c=>asB g (fun h=>pif (!h) (B21 P c) (B20 P b d a c)))))
abbrev k8:Sk:=[(1,.v),(2,.v),(3,.x),(9,J)]
def B24 (P:PT) (a:Y k8):Y k8:=fun b c d e H=>
  a b c d (i64.wrap (e+1)) H
def B25 (a:Y k8):Y k0:=fun H=>
  P (tuple ⟨[(bool false),(I 2)]⟩) H
def B26 (a:Y k8):Y k8:=fun e b f c H=>
  idxK b c 1 (fun g h=>li H g h (fun i=>A 81 [(I i),(I 0),(I 1)] H (fun j d=>asB j (fun k=>pif (!k) (B25 P a d) (B24 P a e b f c d)))))
def B27 (a:Y k8):Y k8:=fun c b d e H=>
  lenK b (fun f=>pif (decide ((e:Int)<(f:Int))) (B26 P a c b d e H) (B22 P c b d H))
def L23:Y k8:=fun j k l m H=>
  ∃ (I:Y k8) (μ:NTy k8 (AHeap→Nat)),I j k l m H∧∀ a b c d G,I a b c d G→B27 P (fun e f g h i=>I e f g h i∧μ e f g h i<μ a b c d G) a b c d G
def B28:Y k7:=fun a b c H=>
  L23 P a b c 0 H
def B29:Y k0:=fun H=>
  P (tuple ⟨[(bool false),(I 2)]⟩) H
def B30:Y k7:=fun a b c H=>
  lenK b (fun d=>lenK a (fun e=>pif (((d:Int):Int) != (e:Int)) (B29 P H) (B28 P a b c H)))
abbrev k9:Sk:=[(8,J)]
def B31:Y k9:=fun a H=>
  P (tuple ⟨[(bool false),(I a)]⟩) H
abbrev k10:Sk:=[(1,.v),(2,.v),(3,.x),(8,J)]
def B32:Y k10:=fun b c d a H=>
  pif ((a:Int) != 0) (B31 P a H) (B30 P b c d H)
def B33:Y k7:=fun b c a H=>
  li H a 0 (fun d=>ld1 H a 1 (fun e=>A 88 [(agg ⟨[(I d),e]⟩),b] H (fun f g=>asI .i64 f (fun h=>B32 P b c a h g))))
abbrev k11:Sk:=[(0,.g [.i,.v]),(1,.v),(2,.v)]
def B34:Y k11:=fun a b c d H=>
  newK H [(I a),b] 26 (fun e f=>B33 P c d e f)
theorem main:Z Tryz.f31 112 k11 (B34 P) P:=
  s (B33 P) (zBW (s (B32 P) (zBW (b (cnd 19 (En 112 k9 (B31 P)) (En 112 k7 (B30 P)))) (zBN rfl (e ()) zBS))) (zBW (zBW (b (cnd 25 (En 112 k0 (B29 P)) (En 112 k7 (B28 P)))) (zBN rfl (e ()) zBS)) (zBW (s (L23 P) (zBC (l (B27 P) (fun N23=>(zBW (zBW (b (cnd 29 (En 112 k8 (B26 P N23)) (En 112 k7 (B22 P)))) (zBN rfl zBS (zBT (fun _ _ h=>h)))) (zBW (zBC (zBW (b (cnd 37 (En 112 k0 (B25 P N23)) (En 112 k8 (B24 P N23)))) (zBN rfl (e ()) zBS))) (a N23))))))) (zBW (zBW (b (cnd 41 (En 112 k0 (B21 P)) (En 112 k7 (B20 P)))) (zBN rfl (e ()) zBS)) (s (B19 P) (zBW (s (L8 P) (zBC (l (B18 P) (fun N8=>(zBW (zBW (b (cnd 49 (En 112 k3 (B17 P N8)) (En 112 k2 (B7 P)))) (zBN rfl zBS (zBT (fun _ _ h=>h)))) (zBW (zBC (zBW (d (tf 7) (En 112 k5 (B16 P N8))) (s (L10 P N8) (zBC (l (B15 P N8) (fun N10=>(zBW (zBW (b (cnd 64 (En 112 k4 (B14 P N8 N10)) (En 112 k3 (B9 P N8)))) (zBN rfl zBS (zBT (fun _ _ h=>h)))) (zBW (zBC (zBW (d (tf 10) (cnd 76 (En 112 k4 (B12 P N8 N10)) (En 112 k4 (B13 P N8 N10)))) (zBN rfl (a (B11 P N8 N10)) (a (B11 P N8 N10))))) (a N10))))))))) (a N8))))))) (zBW (s (L2 P) (zBC (l (B6 P) (fun N2=>(zBW (zBW (b (cnd 104 (En 112 k1 (B5 P N2)) (En 112 k0 (B1 P)))) (zBN rfl zBS (zBT (fun _ _ h=>h)))) (zBW (zBC (zBW (b (cnd 111 (En 112 k0 (B4 P N2)) (En 112 k1 (B3 P N2)))) (zBN rfl (e ()) zBS))) (a N2))))))) (e ()))))))))
theorem ac (a:Int) (b c d:Value) (H:AHeap) (h:B34 P a b c d H):A 31 [(agg ⟨[(I a),b]⟩),c,d] H P:=
  fn Tryz.func31 (main P) h
end F31
namespace F32
variable (P:PT)
abbrev k0:Sk:=[(2,.x),(4,.x),(5,.v)]
def B1:Y k0:=fun a c d H=>
  li H c 0 (fun e=>ld1 H c 1 (fun f=>stK H a 0 [(I e),f] (fun b=>li b a 0 (fun g=>ld1 b a 1 (fun h=>P (tuple ⟨[(agg ⟨[(I g),h]⟩),d]⟩) b)))))
abbrev k1:Sk:=[(0,.v),(2,.x)]
def B2:Y k1:=fun d e H=>
  A 95 [d] H (fun f g=>tup2 f (fun h i=>agg2 h (fun j k=>asI .i64 j (fun l=>newK g [(I 0),(slice none 0 0)] 26 (fun a b=>stK b a 0 [(I l),k] (fun c=>B1 P e a i c))))))
abbrev k2:Sk:=[(0,.v)]
def B3:Y k2:=fun a H=>
  newK H [(I 0),(slice none 0 0)] 26 (fun b c=>B2 P a b c)
theorem main:Z Tryz.f32 13 k2 (B3 P) P:=
  s (B2 P) (s (B1 P) (e ()))
theorem ac (a:Value) (H:AHeap) (h:B3 P a H):A 32 [a] H P:=
  fn Tryz.func32 (main P) h
end F32
namespace F33
variable (P:PT)
abbrev k0:Sk:=[(1,.v),(2,.x)]
def B1:Y k0:=fun b a H=>
  li H a 0 (fun c=>ld1 H a 1 (fun d=>A 97 [(agg ⟨[(I c),d]⟩),b] H (fun e f=>P (tuple ⟨[e,(I 0)]⟩) f)))
abbrev k1:Sk:=[(6,J)]
def B2:Y k1:=fun a H=>
  P (tuple ⟨[(slice none 0 0),(I a)]⟩) H
abbrev k2:Sk:=[(1,.v),(2,.x),(6,J)]
def B3:Y k2:=fun b c a H=>
  pif ((a:Int) != 0) (B2 P a H) (B1 P b c H)
def B4:Y k0:=fun c a H=>
  li H a 0 (fun e=>ld1 H a 1 (fun f=>li H a 0 (fun g=>ld1 H a 1 (fun h=>A 96 [(agg ⟨[(I g),h]⟩),c] H (fun i d=>asB i (fun j=>(AHeap.le H d)∧(A 53 [(agg ⟨[(I e),f]⟩),(bool j)] d (fun k l=>asI .i64 k (fun b=>B3 P c a b l)))))))))
abbrev k3:Sk:=[(0,.g [.i,.v]),(1,.v)]
def B5:Y k3:=fun a b c H=>
  newK H [(I a),b] 26 (fun d e=>B4 P c d e)
theorem main:Z Tryz.f33 18 k3 (B5 P) P:=
  s (B4 P) (zBW (zBW (d [(0,false),(1,false),(2,false),(3,true),(4,false),(5,false)] (En 18 k2 (B3 P))) (zBW (b (cnd 13 (En 18 k1 (B2 P)) (En 18 k0 (B1 P)))) (zBN rfl (e ()) zBS))) (e ()))
theorem ac (a:Int) (b c:Value) (H:AHeap) (h:B5 P a b c H):A 33 [(agg ⟨[(I a),b]⟩),c] H P:=
  fn Tryz.func33 (main P) h
end F33
namespace F34
variable (P:PT)
abbrev k0:Sk:=[(1,.v),(2,.x)]
def B1:Y k0:=fun b a H=>
  li H a 0 (fun c=>ld1 H a 1 (fun d=>A 99 [(agg ⟨[(I c),d]⟩),b] H (fun e f=>P (tuple ⟨[e,(I 0)]⟩) f)))
abbrev k1:Sk:=[(6,J)]
def B2:Y k1:=fun a H=>
  P (tuple ⟨[(slice none 0 0),(I a)]⟩) H
abbrev k2:Sk:=[(1,.v),(2,.x),(6,J)]
def B3:Y k2:=fun b c a H=>
  pif ((a:Int) != 0) (B2 P a H) (B1 P b c H)
def B4:Y k0:=fun b a H=>
  li H a 0 (fun c=>ld1 H a 1 (fun d=>A 98 [(agg ⟨[(I c),d]⟩),b] H (fun e f=>asI .i64 e (fun g=>B3 P b a g f))))
abbrev k3:Sk:=[(0,.g [.i,.v]),(1,.v)]
def B5:Y k3:=fun a b c H=>
  newK H [(I a),b] 26 (fun d e=>B4 P c d e)
theorem main:Z Tryz.f34 16 k3 (B5 P) P:=
  s (B4 P) (zBW (s (B3 P) (zBW (b (cnd 11 (En 16 k1 (B2 P)) (En 16 k0 (B1 P)))) (zBN rfl (e ()) zBS))) (e ()))
theorem ac (a:Int) (b c:Value) (H:AHeap) (h:B5 P a b c H):A 34 [(agg ⟨[(I a),b]⟩),c] H P:=
  fn Tryz.func34 (main P) h
end F34
namespace F35
variable (P:PT)
abbrev k0:Sk:=[(2,.x),(4,.v),(5,.x),(6,.v)]
def B1:Y k0:=fun a f e g H=>
  li H e 0 (fun h=>ld1 H e 1 (fun i=>A 62 [f,(agg ⟨[(I h),i]⟩)] H (fun j k=>agg2 j (fun l m=>asI .i64 l (fun n=>stK k a 0 [(I n),m] (fun b=>li b a 0 (fun c=>ld1 b a 1 (fun d=>P (tuple ⟨[(agg ⟨[(I c),d]⟩),g]⟩) b))))))))
abbrev k1:Sk:=[(2,.x),(4,.v)]
def B2:Y k1:=fun e d H=>
  A 87 [d] H (fun f g=>tup2 f (fun h i=>agg2 h (fun j k=>asI .i64 j (fun l=>newK g [(I 0),(slice none 0 0)] 26 (fun a b=>stK b a 0 [(I l),k] (fun c=>B1 P e d a i c))))))
abbrev k2:Sk:=[(0,.v),(2,.x)]
def B3:Y k2:=fun a b H=>
  A 57 [a] H (fun c d=>B2 P b c d)
abbrev k3:Sk:=[(0,.v)]
def B4:Y k3:=fun a H=>
  newK H [(I 0),(slice none 0 0)] 26 (fun b c=>B3 P a b c)
theorem main:Z Tryz.f35 18 k3 (B4 P) P:=
  s (B3 P) (s (B2 P) (s (B1 P) (e ())))
theorem ac (a:Value) (H:AHeap) (h:B4 P a H):A 35 [a] H P:=
  fn Tryz.func35 (main P) h
end F35
namespace F36
variable (P:PT)
abbrev k0:Sk:=[(1,.v),(2,.x)]
def B1:Y k0:=fun b a H=>
  li H a 0 (fun c=>ld1 H a 1 (fun d=>A 89 [(agg ⟨[(I c),d]⟩),b] H (fun e f=>asB e (fun g=>P (tuple ⟨[(bool g),(I 0)]⟩) f))))
abbrev k1:Sk:=[(6,J)]
def B2:Y k1:=fun a H=>
  P (tuple ⟨[(bool false),(I a)]⟩) H
abbrev k2:Sk:=[(1,.v),(2,.x),(6,J)]
def B3:Y k2:=fun b c a H=>
  pif ((a:Int) != 0) (B2 P a H) (B1 P b c H)
def B4:Y k0:=fun b a H=>
  li H a 0 (fun c=>ld1 H a 1 (fun d=>A 88 [(agg ⟨[(I c),d]⟩),b] H (fun e f=>asI .i64 e (fun g=>B3 P b a g f))))
abbrev k3:Sk:=[(0,.g [.i,.v]),(1,.v)]
def B5:Y k3:=fun a b c H=>
  newK H [(I a),b] 26 (fun d e=>B4 P c d e)
theorem main:Z Tryz.f36 16 k3 (B5 P) P:=
  s (B4 P) (zBW (s (B3 P) (zBW (b (cnd 11 (En 16 k1 (B2 P)) (En 16 k0 (B1 P)))) (zBN rfl (e ()) zBS))) (e ()))
theorem ac (a:Int) (b c:Value) (H:AHeap) (h:B5 P a b c H):A 36 [(agg ⟨[(I a),b]⟩),c] H P:=
  fn Tryz.func36 (main P) h
end F36
namespace F37
variable (P:PT)
abbrev k0:Sk:=[(2,.x),(4,.x),(5,.v)]
def B1:Y k0:=fun a c d H=>
  li H c 0 (fun e=>ld1 H c 1 (fun f=>stK H a 0 [(I e),f] (fun b=>li b a 0 (fun g=>ld1 b a 1 (fun h=>P (tuple ⟨[(agg ⟨[(I g),h]⟩),d]⟩) b)))))
abbrev k1:Sk:=[(0,.v),(2,.x)]
def B2:Y k1:=fun d e H=>
  A 95 [d] H (fun f g=>tup2 f (fun h i=>agg2 h (fun j k=>asI .i64 j (fun l=>newK g [(I 0),(slice none 0 0)] 26 (fun a b=>stK b a 0 [(I l),k] (fun c=>B1 P e a i c))))))
abbrev k2:Sk:=[(0,.v)]
def B3:Y k2:=fun a H=>
  newK H [(I 0),(slice none 0 0)] 26 (fun b c=>B2 P a b c)
theorem main:Z Tryz.f37 13 k2 (B3 P) P:=
  s (B2 P) (s (B1 P) (e ()))
theorem ac (a:Value) (H:AHeap) (h:B3 P a H):A 37 [a] H P:=
  fn Tryz.func37 (main P) h
end F37
namespace F38
variable (P:PT)
abbrev k0:Sk:=[(1,.v),(2,.x)]
def B1:Y k0:=fun b a H=>
  li H a 0 (fun c=>ld1 H a 1 (fun d=>A 101 [(agg ⟨[(I c),d]⟩),b] H (fun e f=>asI .i64 e (fun g=>P (tuple ⟨[(I g),(I 0)]⟩) f))))
abbrev k1:Sk:=[]
def B2:Y k1:=fun H=>
  P (tuple ⟨[(I 0),(I 5)]⟩) H
def B3:Y k0:=fun c a H=>
  li H a 0 (fun d=>ld1 H a 1 (fun e=>A 100 [(agg ⟨[(I d),e]⟩)] H (fun f b=>asB f (fun g=>pif (!g) (B2 P b) (B1 P c a b)))))
abbrev k2:Sk:=[(6,J)]
def B4:Y k2:=fun a H=>
  P (tuple ⟨[(I 0),(I a)]⟩) H
abbrev k3:Sk:=[(1,.v),(2,.x),(6,J)]
def B5:Y k3:=fun b c a H=>
  pif ((a:Int) != 0) (B4 P a H) (B3 P b c H)
def B6:Y k0:=fun c a H=>
  li H a 0 (fun e=>ld1 H a 1 (fun f=>li H a 0 (fun g=>ld1 H a 1 (fun h=>A 96 [(agg ⟨[(I g),h]⟩),c] H (fun i d=>asB i (fun j=>(AHeap.le H d)∧(A 53 [(agg ⟨[(I e),f]⟩),(bool j)] d (fun k l=>asI .i64 k (fun b=>B5 P c a b l)))))))))
abbrev k4:Sk:=[(0,.g [.i,.v]),(1,.v)]
def B7:Y k4:=fun a b c H=>
  newK H [(I a),b] 26 (fun d e=>B6 P c d e)
theorem main:Z Tryz.f38 21 k4 (B7 P) P:=
  s (B6 P) (zBW (zBW (d [(0,false),(1,false),(2,false),(3,true),(4,false),(5,false)] (En 21 k3 (B5 P))) (zBW (b (cnd 13 (En 21 k2 (B4 P)) (En 21 k0 (B3 P)))) (zBN rfl (e ()) zBS))) (zBW (zBW (b (cnd 17 (En 21 k1 (B2 P)) (En 21 k0 (B1 P)))) (zBN rfl (e ()) zBS)) (e ())))
theorem ac (a:Int) (b c:Value) (H:AHeap) (h:B7 P a b c H):A 38 [(agg ⟨[(I a),b]⟩),c] H P:=
  fn Tryz.func38 (main P) h
end F38
namespace F39
variable (P:PT)
abbrev k0:Sk:=[(1,.v),(2,.x)]
def B1:Y k0:=fun b a H=>
  li H a 0 (fun c=>ld1 H a 1 (fun d=>A 103 [(agg ⟨[(I c),d]⟩),b] H (fun e f=>asI .i64 e (fun g=>P (tuple ⟨[(I g),(I 0)]⟩) f))))
abbrev k1:Sk:=[]
def B2:Y k1:=fun H=>
  P (tuple ⟨[(I 0),(I 5)]⟩) H
def B3:Y k0:=fun c a H=>
  li H a 0 (fun d=>ld1 H a 1 (fun e=>A 102 [(agg ⟨[(I d),e]⟩)] H (fun f b=>asB f (fun g=>pif (!g) (B2 P b) (B1 P c a b)))))
abbrev k2:Sk:=[(6,J)]
def B4:Y k2:=fun a H=>
  P (tuple ⟨[(I 0),(I a)]⟩) H
abbrev k3:Sk:=[(1,.v),(2,.x),(6,J)]
def B5:Y k3:=fun b c a H=>
  pif ((a:Int) != 0) (B4 P a H) (B3 P b c H)
def B6:Y k0:=fun b a H=>
  li H a 0 (fun c=>ld1 H a 1 (fun d=>A 98 [(agg ⟨[(I c),d]⟩),b] H (fun e f=>asI .i64 e (fun g=>B5 P b a g f))))
abbrev k4:Sk:=[(0,.g [.i,.v]),(1,.v)]
def B7:Y k4:=fun a b c H=>
  newK H [(I a),b] 26 (fun d e=>B6 P c d e)
theorem main:Z Tryz.f39 19 k4 (B7 P) P:=
  s (B6 P) (zBW (s (B5 P) (zBW (b (cnd 11 (En 19 k2 (B4 P)) (En 19 k0 (B3 P)))) (zBN rfl (e ()) zBS))) (zBW (zBW (b (cnd 15 (En 19 k1 (B2 P)) (En 19 k0 (B1 P)))) (zBN rfl (e ()) zBS)) (e ())))
theorem ac (a:Int) (b c:Value) (H:AHeap) (h:B7 P a b c H):A 39 [(agg ⟨[(I a),b]⟩),c] H P:=
  fn Tryz.func39 (main P) h
end F39
namespace F40
variable (P:PT)
abbrev k0:Sk:=[(2,.x),(3,.v),(4,.x)]
def B1:Y k0:=fun a f e H=>
  li H e 0 (fun g=>ld1 H e 1 (fun h=>A 62 [f,(agg ⟨[(I g),h]⟩)] H (fun i j=>agg2 i (fun k l=>asI .i64 k (fun m=>stK j a 0 [(I m),l] (fun b=>li b a 0 (fun c=>ld1 b a 1 (fun d=>P (agg ⟨[(I c),d]⟩) b))))))))
def B2:Y k0:=fun c a b H=>
  A 104 [a,(I 6)] H (fun d e=>agg2 d (fun f g=>asI .i64 f (fun h=>stK e b 0 [(I h),g] (fun i=>B1 P c a b i))))
def B3:Y k0:=fun c a b H=>
  li H b 0 (fun e=>pif (decide ((e:Int)>8)) (A 60 [a,(I 4)] H (fun f d=>asI .i64 f (fun g=>pif (decide ((g:Int)>0)) (B2 P c a b d) (B1 P c a b d)))) (B1 P c a b H))
abbrev k1:Sk:=[(2,.x),(3,.v)]
def B4:Y k1:=fun c a H=>
  A 65 [a] H (fun d e=>agg2 d (fun f g=>asI .i64 f (fun h=>newK e [(I 0),(slice none 0 0)] 26 (fun b i=>stK i b 0 [(I h),g] (fun j=>B3 P c a b j)))))
def B5:Y k1:=fun a c H=>
  A 64 [c] H (fun d e=>agg2 d (fun f g=>asI .i64 f (fun h=>stK e a 0 [(I h),g] (fun b=>li b a 0 (fun i=>ld1 b a 1 (fun j=>P (agg ⟨[(I i),j]⟩) b))))))
def B6:Y k1:=fun b a H=>
  A 60 [a,(I 20)] H (fun d c=>asI .i64 d (fun e=>pif ((e:Int)==0) (B5 P b a c) (B4 P b a c)))
abbrev k2:Sk:=[(0,.v),(2,.x)]
def B7:Y k2:=fun a b H=>
  A 57 [a] H (fun c d=>B6 P b c d)
abbrev k3:Sk:=[(0,.v)]
def B8:Y k3:=fun a H=>
  newK H [(I 0),(slice none 0 0)] 26 (fun b c=>B7 P a b c)
theorem main:Z Tryz.f40 27 k3 (B8 P) P:=
  s (B7 P) (s (B6 P) (zBW (zBW (b (cnd 9 (En 27 k1 (B5 P)) (En 27 k1 (B4 P)))) (zBN rfl (e ()) zBS)) (s (B3 P) (zBW (zBW (b (cnd 21 (En 27 k0 (B2 P)) (En 27 k0 (B1 P)))) (zBN rfl (a (B1 P)) zBS)) (e ())))))
theorem ac (a:Value) (H:AHeap) (h:B8 P a H):A 40 [a] H P:=
  fn Tryz.func40 (main P) h
end F40
namespace F41
variable (P:PT)
abbrev k0:Sk:=[(5,J)]
def B1:Y k0:=fun a H=>
  P (tuple ⟨[(I a),(I 0)]⟩) H
abbrev k1:Sk:=[(1,.x),(5,J),(6,.v),(24,.i .u64),(25,.i .u64)]
def B3 (P:PT) (c:Y k1):Y k1:=fun d e f a b H=>
  c d e f a (u64.wrap (b+1)) H
def B4 (g:Y k1):Y k1:=fun a d e b c H=>
  li H a 0 (fun h=>ld1 H a 1 (fun i=>A 101 [(agg ⟨[(I h),i]⟩),e] H (fun j k=>asI .i64 j (fun f=>B3 P g a (if f<d then f else d) e b c k))))
abbrev k2:Sk:=[(1,.x),(5,J),(6,.v),(7,.i .u64),(24,.i .u64),(25,.i .u64),(29,J),(30,J)]
def B6 (P:PT) (j:Y k1) (e:Y k2):Y k2:=fun f g h i a b c d H=>
  e f g h i a b c (i64.wrap (d+1)) H
abbrev k3:Sk:=[(1,.x),(5,J),(6,.v),(7,.i .u64),(8,J),(24,.i .u64),(25,.i .u64),(29,J),(30,J)]
def B7 (h:Y k1) (i:Y k2):Y k3:=fun j k f g a b c d e H=>
  ((0:Int)≤a)∧(idxK f a 1 (fun l m=>stK H l m [(I (i64.wrap (u64.wrap (BitVec.ofInt 64 (Int.fdiv g (2^(min (Int.toNat a) 64)))&&&BitVec.ofInt 64 1).toNat)))] (fun n=>B6 P h i j k f g b c d e n)))
def B8 (e:Y k1) (f:Y k2):Y k2:=fun g h i j b c d a H=>
  B7 P e f g h i j a b c d a H
def B9 (e:Y k1) (i:Y k2):Y k2:=fun f g h j a b c d H=>
  pif (decide ((d:Int)<c)) (B8 P e i f g h j a b c d H) (B4 P e f g h a b H)
def L5 (v:Y k1):Y k2:=fun w x y z i j k l H=>
  ∃ (I:Y k2) (μ:NTy k2 (AHeap→Nat)),I w x y z i j k l H∧∀ m n o p a b c d G,I m n o p a b c d G→B9 P v (fun q r s t e f g h u=>I q r s t e f g h u∧μ q r s t e f g h u<μ m n o p a b c d G) m n o p a b c d G
abbrev k4:Sk:=[(1,.x),(5,J),(6,.v),(7,.i .u64),(24,.i .u64),(25,.i .u64)]
def B10 (d:Y k1):Y k4:=fun e f c g a b H=>
  lenK c (fun h=>L5 P d e f c g a b (h:Int) 0 H)
def B11 (c:Y k1):Y k1:=fun d e f b a H=>
  B10 P c d e f a b a H
def B12 (d:Y k1):Y k1:=fun e c f a b H=>
  pif (decide ((b:Int)<a)) (B11 P d e c f a b H) (B1 P c H)
def L2:Y k1:=fun n o p e f H=>
  ∃ (I:Y k1) (μ:NTy k1 (AHeap→Nat)),I n o p e f H∧∀ g h i a b G,I g h i a b G→B12 P (fun j k l c d m=>I j k l c d m∧μ j k l c d m<μ g h i a b G) g h i a b G
abbrev k5:Sk:=[(1,.x),(5,J),(6,.v)]
def B13:Y k5:=fun a c d H=>
  li H a 0 (fun b=>((0:Int)≤b)∧(L2 P a c d (u64.wrap (1*2^(min (Int.toNat b) 64))) 0 H))
abbrev k6:Sk:=[(1,.x),(5,J)]
def B14:Y k6:=fun a c H=>
  li H a 0 (fun b=>mkR H 8 2 [(I 0)] b b (fun d e=>B13 P a c d e))
abbrev k7:Sk:=[(1,.x)]
def B15:Y k7:=fun a H=>
  li H a 0 (fun b=>B14 P a b H)
abbrev k8:Sk:=[]
def B16:Y k8:=fun H=>
  P (tuple ⟨[(I 0),(I 3)]⟩) H
def B17:Y k7:=fun a H=>
  li H a 0 (fun b=>pif (decide ((b:Int)>10)) (B16 P H) (B15 P a H))
abbrev k9:Sk:=[(4,J)]
def B18:Y k9:=fun a H=>
  P (tuple ⟨[(I 0),(I a)]⟩) H
abbrev k10:Sk:=[(1,.x),(4,J)]
def B19:Y k10:=fun b a H=>
  pif ((a:Int) != 0) (B18 P a H) (B17 P b H)
def B20:Y k7:=fun a H=>
  li H a 0 (fun b=>ld1 H a 1 (fun c=>A 105 [(agg ⟨[(I b),c]⟩)] H (fun d e=>asI .i64 d (fun f=>B19 P a f e))))
abbrev k11:Sk:=[(0,.g [.i,.v])]
def B21:Y k11:=fun a b H=>
  newK H [(I a),b] 26 (fun c d=>B20 P c d)
theorem main:Z Tryz.f41 49 k11 (B21 P) P:=
  s (B20 P) (zBW (s (B19 P) (zBW (b (cnd 12 (En 49 k9 (B18 P)) (En 49 k7 (B17 P)))) (zBN rfl (e ()) zBS))) (zBW (zBW (b (cnd 16 (En 49 k8 (B16 P)) (En 49 k7 (B15 P)))) (zBN rfl (e ()) zBS)) (s (B14 P) (s (B13 P) (zBW (s (L2 P) (zBC (l (B12 P) (fun N2=>(zBW (b (cnd 26 (En 49 k1 (B11 P N2)) (En 49 k0 (B1 P)))) (zBW (zBN rfl zBS (zBT (fun _ _ h=>h))) (zBW (zBC (s (B10 P N2) (zBW (s (L5 P N2) (zBC (l (B9 P N2) (fun N5=>(zBW (b (cnd 31 (En 49 k2 (B8 P N2 N5)) (En 49 k1 (B4 P N2)))) (zBW (zBN rfl zBS (zBT (fun _ _ h=>h))) (zBW (zBC (s (B7 P N2 N5) (a (B6 P N2 N5)))) (a N5)))))))) (a (B3 P N2))))) (a N2)))))))) (e ()))))))
theorem ac (a:Int) (b:Value) (H:AHeap) (h:B21 P a b H):A 41 [(agg ⟨[(I a),b]⟩)] H P:=
  fn Tryz.func41 (main P) h
end F41
namespace F42
variable (P:PT)
abbrev k0:Sk:=[(4,J)]
def B1:Y k0:=fun a H=>
  P (tuple ⟨[(I a),(I 0)]⟩) H
abbrev k1:Sk:=[(1,.x),(4,J),(5,J)]
def B3 (P:PT) (a:Y k1):Y k1:=fun b c d H=>
  a b c (i64.wrap (d+1)) H
abbrev k2:Sk:=[(1,.x),(4,J),(5,J),(6,.v)]
def B4 (d:Y k1):Y k2:=fun a b e f H=>
  li H a 0 (fun g=>ld1 H a 1 (fun h=>A 103 [(agg ⟨[(I g),h]⟩),f] H (fun i j=>asI .i64 i (fun c=>B3 P d a (if c<b then c else b) e j))))
abbrev k3:Sk:=[(1,.x),(4,J),(5,J),(6,.v),(7,J)]
def B6 (P:PT) (g:Y k1) (a:Y k3):Y k3:=fun b c d e f H=>
  a b c d e (i64.wrap (f+1)) H
def B7 (c:Y k1) (d:Y k3):Y k3:=fun e f b g a H=>
  ((0:Int)≤(u64.wrap a))∧(newK H [(I (i64.wrap (BitVec.ofInt 64 (Int.fdiv b (2^(min (Int.toNat (u64.wrap a)) 64)))&&&BitVec.ofInt 64 1).toNat))] 2 (fun h i=>apK T0 2 i g (slice (some ⟨h,0,none⟩) 1 (1+1)) (fun j k=>B6 P c d e f b j a k)))
def B8 (b:Y k1) (g:Y k3):Y k3:=fun a c d e f H=>
  li H a 0 (fun h=>pif (decide ((f:Int)<h)) (B7 P b g a c d e f H) (B4 P b a c d e H))
def L5 (l:Y k1):Y k3:=fun m n o p q H=>
  ∃ (I:Y k3) (μ:NTy k3 (AHeap→Nat)),I m n o p q H∧∀ a b c d e G,I a b c d e G→B8 P l (fun f g h i j k=>I f g h i j k∧μ f g h i j k<μ a b c d e G) a b c d e G
def B9 (a:Y k1):Y k2:=fun b c d e H=>
  L5 P a b c d e 0 H
def B10 (a:Y k1):Y k1:=fun b c d H=>
  newK H [] 2 (fun e f=>B9 P a b c d (slice (some ⟨e,0,none⟩) 0 (0+1)) f)
def B11 (e:Y k1):Y k1:=fun a b c H=>
  li H a 0 (fun d=>((0:Int)≤(u64.wrap (i64.wrap (d-1))))∧(pif (decide ((c:Int)<(i64.wrap (1*2^(min (Int.toNat (u64.wrap (i64.wrap (d-1)))) 64))))) (B10 P e a b c H) (B1 P b H)))
def L2:Y k1:=fun h i j H=>
  ∃ (I:Y k1) (μ:NTy k1 (AHeap→Nat)),I h i j H∧∀ a b c G,I a b c G→B11 P (fun d e f g=>I d e f g∧μ d e f g<μ a b c G) a b c G
abbrev k4:Sk:=[(1,.x),(4,J)]
def B12:Y k4:=fun a b H=>
  L2 P a b 0 H
abbrev k5:Sk:=[(1,.x)]
def B13:Y k5:=fun a H=>
  li H a 0 (fun b=>B12 P a b H)
abbrev k6:Sk:=[]
def B14:Y k6:=fun H=>
  P (tuple ⟨[(I 0),(I 1)]⟩) H
def B15:Y k6:=fun H=>
  P (tuple ⟨[(I 0),(I 5)]⟩) H
def B16:Y k6:=fun H=>
  P (tuple ⟨[(I 0),(I 3)]⟩) H
def B17:Y k5:=fun a H=>
  li H a 0 (fun b=>pif (decide ((b:Int)>10)) (B16 P H) (B13 P a H))
def B18:Y k5:=fun a H=>
  li H a 0 (fun c=>ld1 H a 1 (fun d=>A 102 [(agg ⟨[(I c),d]⟩)] H (fun e b=>asB e (fun f=>pif (!f) (B15 P b) (B17 P a b)))))
def B19:Y k5:=fun a H=>
  li H a 0 (fun c=>ld1 H a 1 (fun d=>A 72 [(agg ⟨[(I c),d]⟩)] H (fun e b=>asB e (fun f=>pif (!f) (B14 P b) (B18 P a b)))))
abbrev k7:Sk:=[(0,.g [.i,.v])]
def B20:Y k7:=fun a b H=>
  newK H [(I a),b] 26 (fun c d=>B19 P c d)
theorem main:Z Tryz.f42 52 k7 (B20 P) P:=
  s (B19 P) (zBW (zBC (zBW (b (cnd 8 (En 52 k6 (B14 P)) (En 52 k5 (B18 P)))) (zBN rfl (e ()) (zBW (b (cnd 12 (En 52 k6 (B15 P)) (En 52 k5 (B17 P)))) (zBN rfl (e ()) (zBW (b (cnd 16 (En 52 k6 (B16 P)) (En 52 k5 (B13 P)))) (zBN rfl (e ()) zBS))))))) (s (B12 P) (zBW (s (L2 P) (zBC (l (B11 P) (fun N2=>(zBW (zBW (b (cnd 28 (En 52 k1 (B10 P N2)) (En 52 k0 (B1 P)))) (zBN rfl zBS (zBT (fun _ _ h=>h)))) (zBW (zBC (s (B9 P N2) (zBW (s (L5 P N2) (zBC (l (B8 P N2) (fun N5=>(zBW (zBW (b (cnd 35 (En 52 k3 (B7 P N2 N5)) (En 52 k2 (B4 P N2)))) (zBN rfl zBS (zBT (fun _ _ h=>h)))) (zBW (zBC (a (B6 P N2 N5))) (a N5))))))) (a (B3 P N2))))) (a N2))))))) (e ()))))
theorem ac (a:Int) (b:Value) (H:AHeap) (h:B20 P a b H):A 42 [(agg ⟨[(I a),b]⟩)] H P:=
  fn Tryz.func42 (main P) h
end F42
namespace F45
variable (P:PT)
abbrev k0:Sk:=[]
def B1:Y k0:=fun H=>
  P (bool true) H
abbrev k1:Sk:=[(1,.i .u64),(2,.x),(7,J),(8,J)]
def B3 (P:PT) (a:Y k1):Y k1:=fun b c d e H=>
  a b c d (i64.wrap (e+1)) H
def B4 (a:Y k1):Y k0:=fun H=>
  P (bool false) H
abbrev k2:Sk:=[(1,.i .u64),(2,.x),(5,J),(7,J),(8,J)]
def B5 (d:Y k1):Y k2:=fun e b f g h H=>
  li H b 0 (fun i=>ld1 H b 1 (fun j=>A 106 [(agg ⟨[(I i),j]⟩),(I f)] H (fun k l=>A 46 [k] l (fun m n=>asI .u64 m (fun o=>A 107 [(int .u64 (u64.wrap (BitVec.ofInt 64 o&&&BitVec.ofInt 64 e).toNat))] n (fun p a=>asI .i64 p (fun c=>pif ((Int.tmod c 2:Int) != 0) (B4 P d a) (B3 P d e b g h a))))))))
def B6 (b:Y k1):Y k1:=fun c d e a H=>
  B5 P b c d a e a H
def B7 (c:Y k1):Y k1:=fun d e a b H=>
  pif (decide ((b:Int)<a)) (B6 P c d e a b H) (B1 P H)
def L2:Y k1:=fun j k l m H=>
  ∃ (I:Y k1) (μ:NTy k1 (AHeap→Nat)),I j k l m H∧∀ a b c d G,I a b c d G→B7 P (fun e f g h i=>I e f g h i∧μ e f g h i<μ a b c d G) a b c d G
abbrev k3:Sk:=[(1,.i .u64),(2,.x)]
def B8:Y k3:=fun b a H=>
  li H a 0 (fun c=>L2 P b a c 0 H)
abbrev k4:Sk:=[(0,.g [.i,.v]),(1,.i .u64)]
def B9:Y k4:=fun a b c H=>
  newK H [(I a),b] 26 (fun d e=>B8 P c d e)
theorem main:Z Tryz.f45 21 k4 (B9 P) P:=
  s (B8 P) (zBW (s (L2 P) (zBC (l (B7 P) (fun N2=>(zBW (b (cnd 9 (En 21 k1 (B6 P N2)) (En 21 k0 (B1 P)))) (zBW (zBN rfl zBS (zBT (fun _ _ h=>h))) (zBW (zBC (s (B5 P N2) (zBW (b (cnd 19 (En 21 k0 (B4 P N2)) (En 21 k1 (B3 P N2)))) (zBN rfl (e ()) zBS)))) (a N2)))))))) (e ()))
theorem ac (a:Int) (b:Value) (c:Int) (H:AHeap) (h:B9 P a b c H):A 45 [(agg ⟨[(I a),b]⟩),(int .u64 c)] H P:=
  fn Tryz.func45 (main P) h
end F45
namespace F46
variable (P:PT)
abbrev k0:Sk:=[(3,.i .u64)]
def B1:Y k0:=fun a H=>
  P (int .u64 a) H
abbrev k1:Sk:=[(3,.i .u64),(6,.v),(7,J),(8,J)]
def B3 (P:PT) (a:Y k1):Y k1:=fun b c d e H=>
  a b c d (i64.wrap (e+1)) H
abbrev k2:Sk:=[(3,.i .u64),(5,J),(6,.v),(7,J),(8,J)]
def B4 (b:Y k1):Y k2:=fun c a d e f H=>
  ((0:Int)≤a)∧(B3 P b (u64.wrap (BitVec.ofInt 64 c|||BitVec.ofInt 64 (u64.wrap (1*2^(min (Int.toNat a) 64)))).toNat) d e f H)
def B5 (c:Y k1):Y k1:=fun d a e b H=>
  idxK a b 1 (fun f g=>li H f g (fun h=>B4 P c d h a e b H))
def B6 (d:Y k1):Y k1:=fun a e b c H=>
  pif (decide ((c:Int)<b)) (B5 P d a e b c H) (B1 P a H)
def L2:Y k1:=fun j k l m H=>
  ∃ (I:Y k1) (μ:NTy k1 (AHeap→Nat)),I j k l m H∧∀ a b c d G,I a b c d G→B6 P (fun e f g h i=>I e f g h i∧μ e f g h i<μ a b c d G) a b c d G
abbrev k3:Sk:=[(0,.v),(3,.i .u64)]
def B7:Y k3:=fun a b H=>
  lenK a (fun c=>L2 P b a (c:Int) 0 H)
abbrev k4:Sk:=[(0,.v)]
def B8:Y k4:=fun a H=>
  B7 P a 0 H
def B9:Y k4:=fun a H=>
  B8 P a H
theorem main:Z Tryz.f46 18 k4 (B9 P) P:=
  s (B8 P) (s (B7 P) (zBW (s (L2 P) (zBC (l (B6 P) (fun N2=>(zBW (b (cnd 9 (En 18 k1 (B5 P N2)) (En 18 k0 (B1 P)))) (zBW (zBN rfl zBS (zBT (fun _ _ h=>h))) (zBW (zBC (s (B4 P N2) (a (B3 P N2)))) (a N2)))))))) (e ())))
theorem ac (a:Value) (H:AHeap) (h:B9 P a H):A 46 [a] H P:=
  fn Tryz.func46 (main P) h
end F46
namespace F47
variable (P:PT)
abbrev k0:Sk:=[(3,.v)]
def B1:Y k0:=fun a H=>
  P a H
abbrev k1:Sk:=[(3,.v),(6,.v),(7,J),(8,J)]
def B3 (P:PT) (a:Y k1):Y k1:=fun b c d e H=>
  a b c d (i64.wrap (e+1)) H
abbrev k2:Sk:=[(3,.v),(5,.i .u64),(6,.v),(7,J),(8,J)]
def B4 (b:Y k1):Y k2:=fun c d e f g H=>
  A 56 [(int .u64 d)] H (fun a h=>pif (Value.oneCell' a) (newK h [a] 27 (fun i j=>apK T0 27 j c (slice (some ⟨i,0,none⟩) 1 (1+1)) (fun k l=>B3 P b k e f g l))) False)
def B5 (c:Y k1):Y k1:=fun d a e b H=>
  idxK a b 1 (fun f g=>ldI .u64 H f g (fun h=>B4 P c d h a e b H))
def B6 (d:Y k1):Y k1:=fun a e b c H=>
  pif (decide ((c:Int)<b)) (B5 P d a e b c H) (B1 P a H)
def L2:Y k1:=fun j k l m H=>
  ∃ (I:Y k1) (μ:NTy k1 (AHeap→Nat)),I j k l m H∧∀ a b c d G,I a b c d G→B6 P (fun e f g h i=>I e f g h i∧μ e f g h i<μ a b c d G) a b c d G
abbrev k3:Sk:=[(0,.v),(3,.v)]
def B7:Y k3:=fun a b H=>
  lenK a (fun c=>L2 P b a (c:Int) 0 H)
abbrev k4:Sk:=[(0,.v)]
def B8:Y k4:=fun a H=>
  B7 P a (slice none 0 0) H
def B9:Y k4:=fun a H=>
  B8 P a H
theorem main:Z Tryz.f47 19 k4 (B9 P) P:=
  s (B8 P) (s (B7 P) (zBW (s (L2 P) (zBC (l (B6 P) (fun N2=>(zBW (b (cnd 9 (En 19 k1 (B5 P N2)) (En 19 k0 (B1 P)))) (zBW (zBN rfl zBS (zBT (fun _ _ h=>h))) (zBW (zBC (s (B4 P N2) (a (B3 P N2)))) (a N2)))))))) (e ())))
theorem ac (a:Value) (H:AHeap) (h:B9 P a H):A 47 [a] H P:=
  fn Tryz.func47 (main P) h
end F47
namespace F48
variable (P:PT)
abbrev k0:Sk:=[(5,.v)]
def B1:Y k0:=fun a H=>
  P a H
abbrev k1:Sk:=[(1,.i .u64),(2,.x),(5,.v),(15,.v),(16,J),(17,J)]
def B3 (P:PT) (d:Y k1):Y k1:=fun e f g a b c H=>
  d e f g a b (i64.wrap (c+1)) H
abbrev k2:Sk:=[(1,.i .u64),(2,.x),(5,.v),(8,.i .u64),(15,.v),(16,J),(17,J)]
def B4 (d:Y k1):Y k2:=fun e f g h a b c H=>
  newK H [(int .u64 h)] 55 (fun i j=>apK T0 55 j g (slice (some ⟨i,0,none⟩) 1 (1+1)) (fun k l=>B3 P d e f k a b c l))
abbrev k3:Sk:=[(1,.i .u64),(2,.x),(5,.v),(8,.i .u64),(9,.v),(15,.v),(16,J),(17,J)]
def B6 (P:PT) (k:Y k1) (d:Y k3):Y k3:=fun e f g h i a b c H=>
  sliceK H 2 i (some (I 1)) none 1 (fun j=>d e f g h j a b c H)
abbrev k4:Sk:=[(1,.i .u64),(2,.x),(5,.v),(8,.i .u64),(9,.v),(15,.v),(16,J),(17,J),(44,.g [.i,.i]),(45,J)]
def B8 (P:PT) (m:Y k1) (n:Y k3) (g:Y k4):Y k4:=fun h i j k l c d e a b f H=>
  g h i j k l c d e a b (i64.wrap (f+1)) H
abbrev k5:Sk:=[(1,.i .u64),(2,.x),(5,.v),(8,.i .u64),(9,.v),(15,.v),(16,J),(17,J),(44,.g [.i,.i]),(45,J),(50,.v),(51,J),(52,J)]
def B10 (P:PT) (p:Y k1) (q:Y k3) (r:Y k4) (j:Y k5):Y k5:=fun k l m n o c d e a b f g h i H=>
  j k l m n o c d e a b f g h (i64.wrap (i+1)) H
abbrev k6:Sk:=[(1,.i .u64),(2,.x),(5,.v),(8,.i .u64),(9,.v),(13,J),(15,.v),(16,J),(17,J),(44,.g [.i,.i]),(45,J),(50,.v),(51,J),(52,J)]
def B11 (k:Y k1) (l:Y k3) (m:Y k4) (n:Y k5):Y k6:=fun o p q r s c d e f a b g h i j H=>
  newK H [(I c)] 2 (fun t u=>apK T0 2 u s (slice (some ⟨t,0,none⟩) 1 (1+1)) (fun v w=>B10 P k l m n o p q r v d e f a b g h i j w))
def B12 (k:Y k1) (l:Y k3) (m:Y k4) (n:Y k5):Y k6:=fun o p q r s a d e f b c g h i j H=>
  ((0:Int)≤a)∧(B11 P k l m n o p q (u64.wrap (BitVec.ofInt 64 r|||BitVec.ofInt 64 (u64.wrap (1*2^(min (Int.toNat a) 64)))).toNat) s a d e f b c g h i j H)
def B13 (m:Y k1) (n:Y k3) (o:Y k4) (p:Y k5):Y k6:=fun k q r l s c d e f a b g h i j H=>
  A 110 [(int .u64 k),(I c)] H (fun v t=>asB v (fun w=>pif w (A 110 [(int .u64 l),(I c)] t (fun x u=>asB x (fun y=>pif (!y) (B12 P m n o p k q r l s c d e f a b g h i j u) (B10 P m n o p k q r l s d e f a b g h i j u)))) (B10 P m n o p k q r l s d e f a b g h i j t)))
def B14 (j:Y k1) (k:Y k3) (l:Y k4) (m:Y k5):Y k5:=fun n o p q r e f g a b h c i d H=>
  idxK c d 1 (fun s t=>li H s t (fun u=>B13 P j k l m n o p q r u e f g a b h c i d H))
def B15 (j:Y k1) (k:Y k3) (l:Y k4) (r:Y k5):Y k5:=fun m n o p q c d e a b f i g h H=>
  pif (decide ((h:Int)<g)) (B14 P j k l r m n o p q c d e a b f i g h H) (B8 P j k l m n o p q c d e a b f H)
def L9 (N2:Y k1) (N5:Y k3) (N7:Y k4):Y k5:=fun x1 x2 x5 x8 x9 u v w l m x y z C H=>
  ∃ (I:Y k5) (μ:NTy k5 (AHeap→Nat)),I x1 x2 x5 x8 x9 u v w l m x y z C H∧∀ D F K L Q e f g a b h i j k G,I D F K L Q e f g a b h i j k G→B15 P N2 N5 N7 (fun R S T U V n o p c d q r s t X=>I R S T U V n o p c d q r s t X∧μ R S T U V n o p c d q r s t X<μ D F K L Q e f g a b h i j k G) D F K L Q e f g a b h i j k G
abbrev k7:Sk:=[(1,.i .u64),(2,.x),(5,.v),(8,.i .u64),(9,.v),(11,J),(15,.v),(16,J),(17,J),(44,.g [.i,.i]),(45,J)]
def B16 (j:Y k1) (k:Y k3) (l:Y k4):Y k7:=fun m c n o p d e f g a b h H=>
  li H c 0 (fun q=>ld1 H c 1 (fun r=>A 106 [(agg ⟨[(I q),r]⟩),(I d)] H (fun i s=>lenK i (fun t=>L9 P j k l m c n o p e f g a b h i (t:Int) 0 s))))
def B17 (g:Y k1) (h:Y k3) (i:Y k4):Y k4:=fun j k l m n d e f a b c H=>
  bndK c 2 (atK [(I a),(I b)] (Int.toNat c*1) (fun o=>asI .i64 o (fun p=>B16 P g h i j k l m n p d e f a b c H)))
def B18 (g:Y k1) (h:Y k3) (n:Y k4):Y k4:=fun i j k l m a b c d e f H=>
  pif (decide ((f:Int)<2)) (B17 P g h n i j k l m a b c d e f H) (B6 P g h i j k l m a b c H)
def L7 (K:Y k1) (L:Y k3):Y k4:=fun Q R S T U o p q i j r H=>
  ∃ (I:Y k4) (μ:NTy k4 (AHeap→Nat)),I Q R S T U o p q i j r H∧∀ s t u v w e f g a b h G,I s t u v w e f g a b h G→B18 P K L (fun x y z C D k l m c d n F=>I x y z C D k l m c d n F∧μ x y z C D k l m c d n F<μ s t u v w e f g a b h G) s t u v w e f g a b h G
def B19 (h:Y k1) (i:Y k3):Y k3:=fun j d k l e a b c H=>
  ld1 H d 1 (fun m=>idxK e 0 1 (fun n o=>li H n o (fun p=>idxK m p 2 (fun f g=>li H f g (fun q=>li H f (g+1) (fun r=>L7 P h i j d k l e a b c q r 0 H))))))
def B20 (d:Y k1) (j:Y k3):Y k3:=fun e f g h i a b c H=>
  lenK i (fun k=>pif (decide (((k:Int):Int)>0)) (B19 P d j e f g h i a b c H) (B4 P d e f g h a b c H))
def L5 (u:Y k1):Y k3:=fun v w x y z g h i H=>
  ∃ (I:Y k3) (μ:NTy k3 (AHeap→Nat)),I v w x y z g h i H∧∀ j k l m n a b c G,I j k l m n a b c G→B20 P u (fun o p q r s d e f t=>I o p q r s d e f t∧μ o p q r s d e f t<μ j k l m n a b c G) j k l m n a b c G
abbrev k8:Sk:=[(1,.i .u64),(2,.x),(5,.v),(7,.x),(8,.i .u64),(15,.v),(16,J),(17,J)]
def B21 (d:Y k1):Y k8:=fun e f g h i a b c H=>
  li H h 0 (fun j=>newK H [(I j)] 2 (fun k l=>L5 P d e f g i (slice (some ⟨k,0,none⟩) 1 (1+1)) a b c l))
abbrev k9:Sk:=[(1,.i .u64),(2,.x),(5,.v),(7,.x),(15,.v),(16,J),(17,J)]
def B22 (f:Y k1):Y k9:=fun g h i d a b c H=>
  li H d 0 (fun e=>((0:Int)≤e)∧(B21 P f g h i d (u64.wrap (1*2^(min (Int.toNat e) 64))) a b c H))
def B23 (e:Y k1):Y k9:=fun f g d h a b c H=>
  lenK d (fun j=>pif (decide (((j:Int):Int)>0)) (A 108 [d,(func (.func 109) ⟨[]⟩ ⟨[(pointer (some ⟨h,0,none⟩))]⟩)] H (fun k i=>asB k (fun l=>pif l (B3 P e f g d a b c i) (B22 P e f g d h a b c i)))) (B22 P e f g d h a b c H))
def B24 (e:Y k1):Y k1:=fun f g h a c b H=>
  idxK a b 1 (fun i j=>li H i j (fun k=>newK H [(I 0)] 2 (fun d l=>stK l d 0 [(I k)] (fun m=>B23 P e f g h d a c b m))))
def B25 (e:Y k1):Y k1:=fun f g d c a b H=>
  pif (decide ((b:Int)<a)) (B24 P e f g d c a b H) (B1 P d H)
def L2:Y k1:=fun q r s g h i H=>
  ∃ (I:Y k1) (μ:NTy k1 (AHeap→Nat)),I q r s g h i H∧∀ j k l a b c G,I j k l a b c G→B25 P (fun m n o d e f p=>I m n o d e f p∧μ m n o d e f p<μ j k l a b c G) j k l a b c G
abbrev k10:Sk:=[(1,.i .u64),(2,.x),(5,.v)]
def B26:Y k10:=fun a c d H=>
  A 56 [(int .u64 a)] H (fun b e=>lenK b (fun f=>L2 P a c d b (f:Int) 0 e))
abbrev k11:Sk:=[(1,.i .u64),(2,.x)]
def B27:Y k11:=fun a b H=>
  B26 P a b (slice none 0 0) H
abbrev k12:Sk:=[(0,.g [.i,.v]),(1,.i .u64)]
def B28:Y k12:=fun a b c H=>
  newK H [(I a),b] 26 (fun d e=>B27 P c d e)
theorem main:Z Tryz.f48 81 k12 (B28 P) P:=
  s (B27 P) (s (B26 P) (zBW (s (L2 P) (zBC (l (B25 P) (fun N2=>(zBW (b (cnd 18 (En 81 k1 (B24 P N2)) (En 81 k0 (B1 P)))) (zBW (zBN rfl zBS (zBT (fun _ _ h=>h))) (zBW (zBC (s (B23 P N2) (zBW (zBW (b (cnd 28 (En 81 k1 (B3 P N2)) (En 81 k9 (B22 P N2)))) (zBN rfl (zBT (fun _ _ h=>h)) zBS)) (s (B21 P N2) (zBW (s (L5 P N2) (zBC (l (B20 P N2) (fun N5=>(zBW (zBW (b (cnd 35 (En 81 k3 (B19 P N2 N5)) (En 81 k2 (B4 P N2)))) (zBN rfl zBS (zBT (fun _ _ h=>h)))) (zBW (zBC (zBW (d (tf 8) (En 81 k4 (L7 P N2 N5))) (zBC (l (B18 P N2 N5) (fun N7=>(zBW (b (cnd 46 (En 81 k4 (B17 P N2 N5 N7)) (En 81 k3 (B6 P N2 N5)))) (zBW (zBN rfl zBS (zBT (fun _ _ h=>h))) (zBW (zBC (s (B16 P N2 N5 N7) (s (L9 P N2 N5 N7) (zBC (l (B15 P N2 N5 N7) (fun N9=>(zBW (b (cnd 53 (En 81 k5 (B14 P N2 N5 N7 N9)) (En 81 k4 (B8 P N2 N5 N7)))) (zBW (zBN rfl zBS (zBT (fun _ _ h=>h))) (zBW (zBC (s (B13 P N2 N5 N7 N9) (zBW (b (cnd 64 (En 81 k6 (B12 P N2 N5 N7 N9)) (En 81 k5 (B10 P N2 N5 N7 N9)))) (zBN rfl (s (B11 P N2 N5 N7 N9) (a (B10 P N2 N5 N7 N9))) zBS)))) (a N9)))))))))) (a N7))))))))) (a N5))))))) (a (B3 P N2))))))) (a N2)))))))) (e ())))
theorem ac (a:Int) (b:Value) (c:Int) (H:AHeap) (h:B28 P a b c H):A 48 [(agg ⟨[(I a),b]⟩),(int .u64 c)] H P:=
  fn Tryz.func48 (main P) h
end F48
namespace F50
variable (P:PT)
abbrev k0:Sk:=[]
def B1:Y k0:=fun H=>
  P (bool true) H
abbrev k1:Sk:=[(5,.v),(7,J)]
def B3 (P:PT) (a:Y k1):Y k1:=fun b c H=>
  a b (i64.wrap (c+1)) H
def B4 (a:Y k1):Y k0:=fun H=>
  P (bool false) H
def B5 (a:Y k1):Y k1:=fun b c H=>
  idxK b c 1 (fun d e=>li H d e (fun f=>pif ((Int.tmod f 2:Int) != 0) (B4 P a H) (B3 P a b c H)))
def B6 (c:Y k1):Y k1:=fun a b H=>
  lenK a (fun d=>pif (decide ((b:Int)<(d:Int))) (B5 P c a b H) (B1 P H))
def L2:Y k1:=fun f g H=>
  ∃ (I:Y k1) (μ:NTy k1 (AHeap→Nat)),I f g H∧∀ a b G,I a b G→B6 P (fun c d e=>I c d e∧μ c d e<μ a b G) a b G
abbrev k2:Sk:=[(5,.v)]
def B7:Y k2:=fun a H=>
  L2 P a 0 H
abbrev k3:Sk:=[(1,.v),(2,.x),(5,.v),(6,J)]
def B9 (P:PT) (a:Y k3):Y k3:=fun b c d e H=>
  a b c d (i64.wrap (e+1)) H
def B10 (j:Y k3):Y k3:=fun f g a h H=>
  ld1 H g 1 (fun k=>idxK f h 1 (fun l m=>li H l m (fun n=>idxK k n 2 (fun o p=>li H o (p+1) (fun i=>idxK a i 1 (fun q r=>li H q r (fun b=>idxK a i 1 (fun c d=>stK H c d [(I (i64.wrap (b+1)))] (fun e=>B9 P j f g a h e)))))))))
def B11 (j:Y k3):Y k3:=fun f g a h H=>
  ld1 H g 1 (fun k=>idxK f h 1 (fun l m=>li H l m (fun n=>idxK k n 2 (fun o p=>li H o p (fun i=>idxK a i 1 (fun q r=>li H q r (fun b=>idxK a i 1 (fun c d=>stK H c d [(I (i64.wrap (b+1)))] (fun e=>B10 P j f g a h e)))))))))
def B12 (d:Y k3):Y k3:=fun a e b c H=>
  lenK a (fun f=>pif (decide ((c:Int)<(f:Int))) (B11 P d a e b c H) (B7 P b H))
def L8:Y k3:=fun j k l m H=>
  ∃ (I:Y k3) (μ:NTy k3 (AHeap→Nat)),I j k l m H∧∀ a b c d G,I a b c d G→B12 P (fun e f g h i=>I e f g h i∧μ e f g h i<μ a b c d G) a b c d G
abbrev k4:Sk:=[(1,.v),(2,.x),(5,.v)]
def B13:Y k4:=fun a b c H=>
  L8 P a b c 0 H
abbrev k5:Sk:=[(1,.v),(2,.x)]
def B14:Y k5:=fun c a H=>
  li H a 0 (fun b=>mkR H 8 2 [(I 0)] b b (fun d e=>B13 P c a d e))
abbrev k6:Sk:=[(0,.g [.i,.v]),(1,.v)]
def B15:Y k6:=fun a b c H=>
  newK H [(I a),b] 26 (fun d e=>B14 P c d e)
theorem main:Z Tryz.f50 57 k6 (B15 P) P:=
  s (B14 P) (s (B13 P) (zBW (s (L8 P) (zBC (l (B12 P) (fun N8=>(zBW (zBW (b (cnd 14 (En 57 k3 (B11 P N8)) (En 57 k2 (B7 P)))) (zBN rfl zBS (zBT (fun _ _ h=>h)))) (zBW (zBC (zBW (d (tf 15) (En 57 k3 (B10 P N8))) (d (tf 15) (En 57 k3 (B9 P N8))))) (a N8))))))) (zBW (s (L2 P) (zBC (l (B6 P) (fun N2=>(zBW (zBW (b (cnd 48 (En 57 k1 (B5 P N2)) (En 57 k0 (B1 P)))) (zBN rfl zBS (zBT (fun _ _ h=>h)))) (zBW (zBC (zBW (b (cnd 56 (En 57 k0 (B4 P N2)) (En 57 k1 (B3 P N2)))) (zBN rfl (e ()) zBS))) (a N2))))))) (e ()))))
theorem ac (a:Int) (b c:Value) (H:AHeap) (h:B15 P a b c H):A 50 [(agg ⟨[(I a),b]⟩),c] H P:=
  fn Tryz.func50 (main P) h
end F50
end
end Go.Proofs
